/-
  Many owned things as one; automata that are owned, with their rules' slices. Own work. No statement of the seat is proved here.
-/
import Derived.Test.YtdclodapkhgabaaGreatDoorPalSi
namespace Pal
open Go
def many (p : HL) : Own where
  foot := feet p
  holds h := ∀ e ∈ p, e.holds h
  loc h h' heq hh e he := e.loc h h' (fun b hb => heq b (mem_feet.2 ⟨e, he, hb⟩)) (hh e he)
  ex h hh b hb := by
    obtain ⟨e, he, hbe⟩ := mem_feet.1 hb
    exact e.ex h (hh e he) b hbe
theorem feet_many (p hl : HL) : feet (many p :: hl) = feet (p ++ hl) := by rw [feet_cons, feet_append]; rfl
section
variable {P : Program} {n : Nat} {c : Cx} {Q : Exit → Act → World → Prop} {l : KL} {hl : HL} {H : View} {ops : Array Oper} {rest : List Oper}
theorem Ok.many_out {w : World} {p : HL} (h : Ok c w H (many p :: hl)) : Ok c w H (p ++ hl) := by
  refine ⟨h.os, h.tape, h.output, h.drawn, h.size, h.old, h.vold, h.le, h.has, fun e he => ?_, fun b hb => h.foot b (by rw [feet_many]; exact hb), by rw [← feet_many]; exact h.nd⟩
  rcases List.mem_append.1 he with he | he
  · exact h.own (many p) List.mem_cons_self e he
  · exact h.own e (List.mem_cons_of_mem _ he)
theorem Ok.many_in {w : World} {p : HL} (h : Ok c w H (p ++ hl)) : Ok c w H (many p :: hl) := by
  refine ⟨h.os, h.tape, h.output, h.drawn, h.size, h.old, h.vold, h.le, h.has, fun e he => ?_, fun b hb => h.foot b (by rw [← feet_many]; exact hb), by rw [feet_many]; exact h.nd⟩
  rcases List.mem_cons.1 he with rfl | he
  · exact fun e he => h.own e (List.mem_append_left _ he)
  · exact h.own e (List.mem_append_right _ he)
theorem Ok.many_nil {w : World} (h : Ok c w H hl) : Ok c w H (many [] :: hl) := Ok.many_in (p := []) h
theorem Ok.many_perm {w : World} {p p' : HL} (hp : p.Perm p') (h : Ok c w H (many p :: hl)) : Ok c w H (many p' :: hl) := (h.many_out.perm (hp.append_right hl)).many_in
theorem Ok.many_sub {w : World} {p p' : HL} (hp : List.Sublist p' p) (h : Ok c w H (many p :: hl)) : Ok c w H (many p' :: hl) := (h.many_out.sublist (hp.append_right hl)).many_in
theorem Ok.many_snoc {w : World} {p : HL} {en : Own} (h : Ok c w H (en :: many p :: hl)) : Ok c w H (many (p ++ [en]) :: hl) := by
  have h1 : Ok c w H (many p :: en :: hl) := h.perm (List.Perm.swap _ _ _)
  have h2 := h1.many_out
  refine Ok.many_in (p := p ++ [en]) ?_
  simpa using h2
theorem KQ_many_nil {x : Exit} (h : KQ n c Q x l (many [] :: hl) H) : KQ n c Q x l hl H := fun ρ w hm ho => h ρ w hm ho.many_nil
theorem KC_many_nil {code : Code} (h : KC P n c code Q l (many [] :: hl) H) : KC P n c code Q l hl H := fun ρ w hm ho => h ρ w hm ho.many_nil
theorem KQ_many_snoc {x : Exit} {p : HL} {en : Own} (h : KQ n c Q x l (many (p ++ [en]) :: hl) H) : KQ n c Q x l (en :: many p :: hl) H := fun ρ w hm ho => h ρ w hm ho.many_snoc
theorem KQ_many_perm {x : Exit} {p p' : HL} (hp : p.Perm p') (h : KQ n c Q x l (many p' :: hl) H) : KQ n c Q x l (many p :: hl) H := fun ρ w hm ho => h ρ w hm (ho.many_perm hp)
theorem KO_many_perm {p p' : HL} (hp : p.Perm p') (h : KO P n c ops Q rest l (many p' :: hl) H) : KO P n c ops Q rest l (many p :: hl) H := fun ρ w hm ho => h ρ w hm (ho.many_perm hp)
theorem KO_many_sub {p p' : HL} (hp : List.Sublist p' p) (h : KO P n c ops Q rest l (many p' :: hl) H) : KO P n c ops Q rest l (many p :: hl) H := fun ρ w hm ho => h ρ w hm (ho.many_sub hp)
end
/-! ### Rules whose slices are owned -/
def rowsFrom (ti : TypeId) (ps : List (Rl × Value)) : HL := ps.map fun p => row p.2 ti 1 p.1.args.length (ints p.1.args)
theorem rowsFrom_snoc (ti : TypeId) (ps : List (Rl × Value)) (p : Rl × Value) : rowsFrom ti (ps ++ [p]) = rowsFrom ti ps ++ [row p.2 ti 1 p.1.args.length (ints p.1.args)] := by simp [rowsFrom]
theorem cellsP_snoc (ps : List (Rl × Value)) (p : Rl × Value) : cellsP (ps ++ [p]) = cellsP ps ++ cellRV p := by simp [cellsP]
def RlB (r : Rl) : Prop := r.args.length ≤ 1099511627776 ∧ i64ok r.sym ∧ i64ok r.to ∧ ∀ x ∈ r.args, i64ok x
theorem row_SI {ti : TypeId} {v : Value} {xs : List Int} {H : View} (h : (row v ti 1 xs.length (ints xs)).holds H) (hx : ∀ x ∈ xs, i64ok x) : SI H v xs := ⟨(row_view h).1.sl, hx⟩
theorem rv_of_many {ti : TypeId} {ps : List (Rl × Value)} {H : View} (h : (many (rowsFrom ti ps)).holds H) (hb : ∀ p ∈ ps, RlB p.1) : ∀ p ∈ ps, RVok H p := by
  intro p hp
  obtain ⟨h1, h2, h3, h4⟩ := hb p hp
  exact ⟨row_SI (h _ (List.mem_map.2 ⟨p, hp, rfl⟩)) h4, h1, h2, h3⟩
structure AuB (a : Au) : Prop where
  s : i64ok a.states
  rl : a.ranks.length ≤ 1099511627776
  ul : a.rules.length ≤ 1099511627776
  fl : a.final.length ≤ 1099511627776
  r : ∀ x ∈ a.ranks, i64ok x
  u : ∀ r ∈ a.rules, RlB r
  f : ∀ x ∈ a.final, i64ok x
theorem repL_mem {α : Type} {R : α → List Value → Prop} {sz : Nat} {xs : List α} {cells : List Value} (h : RepL R sz xs cells) : ∀ x ∈ xs, ∃ cs, R x cs := by
  intro x hx
  obtain ⟨i, hi, rfl⟩ := List.getElem_of_mem hx
  obtain ⟨cs, _, h2, _⟩ := h.get hi
  exact ⟨cs, h2⟩
theorem RepAu.b {H : View} {a : Au} {vr vu vf : Value} (h : RepAu H a vr vu vf) : AuB a := by
  refine ⟨h.s, h.rl, h.ul, h.fl, h.r.2, fun r hr => ?_, h.f.2⟩
  obtain ⟨cells, _, h2⟩ := h.u
  obtain ⟨cs, a', cp, _, h3, h4, h5, h6⟩ := repL_mem h2 r hr
  exact ⟨h6, h4, h5, h3.2⟩
theorem AuB.norm {a : Au} (h : AuB a) : AuB (normA a) :=
  ⟨h.s, h.rl, Nat.le_trans (sortO_len _) h.ul, Nat.le_trans (sortI_len _) h.fl, h.r, fun r hr => h.u r (sortO_mem.1 hr), fun x hx => h.f x (sortI_mem.1 hx)⟩
/-- An automaton whose rules, final states and rules' slices are owned. -/
def OwnAu (H : View) (ti tr : TypeId) (a : Au) (v : Value) (q : HL) : Prop := ∃ vr ua uc fa fc ps, v = .agg #[vr, .int .i64 a.states, .slice ua ps.length uc, .slice fa a.final.length fc] ∧ SI H vr a.ranks ∧ ps.map (·.1) = a.rules ∧
  q = [row (.slice ua ps.length uc) tr 3 ps.length (cellsP ps), row (.slice fa a.final.length fc) ti 1 a.final.length (ints a.final), many (rowsFrom ti ps)]
theorem repL_rv {H : View} : ∀ {ps : List (Rl × Value)}, (∀ p ∈ ps, RVok H p) → RepL (RepR H) 3 (ps.map (·.1)) (cellsP ps)
  | [], _ => .nil
  | p :: ps, h => by
    have h1 := h p List.mem_cons_self
    obtain ⟨a, cp, e⟩ := h1.1.shape
    have h2 := h1.1
    rw [e] at h2
    exact .cons (sz := 3) ⟨a, cp, by simp [cellRV, e], h2, h1.2.2.1, h1.2.2.2, h1.2.1⟩ rfl (repL_rv fun q hq => h q (List.mem_cons_of_mem _ hq))
section
variable {c : Cx} {hl : HL} {H : View}
theorem Ok.pub_many {w : World} {ti : TypeId} : ∀ {ps : List (Rl × Value)} {H : View}, Ok c w H (many (rowsFrom ti ps) :: hl) → (∀ p ∈ ps, RlB p.1) → ∃ H', VLe H H' ∧ (∀ p ∈ ps, RVok H' p) ∧ Ok c w H' hl
  | [], H, h, _ => ⟨H, VLe.refl _, fun p hp => (by cases hp), h.sublist (List.sublist_cons_self _ _)⟩
  | p :: ps, H, h, hb => by
    have h1 : Ok c w H (row p.2 ti 1 p.1.args.length (ints p.1.args) :: many (rowsFrom ti ps) :: hl) := by
      have h2 := h.many_out
      have h3 : Ok c w H (rowsFrom ti ps ++ (row p.2 ti 1 p.1.args.length (ints p.1.args) :: hl)) := h2.perm (by simpa [rowsFrom] using List.perm_middle.symm)
      exact h3.many_in.perm (List.Perm.swap _ _ _)
    obtain ⟨H1, hle1, hrow, _, h4⟩ := h1.pubrowF
    obtain ⟨H2, hle2, hall, h5⟩ := Ok.pub_many h4 fun q hq => hb q (List.mem_cons_of_mem _ hq)
    refine ⟨H2, hle1.trans hle2, fun q hq => ?_, h5⟩
    rcases List.mem_cons.1 hq with rfl | hq
    · obtain ⟨b1, b2, b3, b4⟩ := hb q List.mem_cons_self
      exact ⟨⟨hrow.sl.mono hle2, b4⟩, b1, b2, b3⟩
    · exact hall q hq
theorem Ok.pub_au {w : World} {ti tr : TypeId} {a : Au} {v : Value} {q : HL} (hq : OwnAu H ti tr a v q) (hb : AuB a) (h : Ok c w H (q ++ hl)) : ∃ H' vr vu vf, VLe H H' ∧ v = .agg #[vr, .int .i64 a.states, vu, vf] ∧ RepAu H' a vr vu vf ∧ Ok c w H' hl := by
  obtain ⟨vr, ua, uc, fa, fc, ps, rfl, hr, hps, rfl⟩ := hq
  have hlen : ps.length = a.rules.length := by rw [← hps]; simp
  obtain ⟨H1, hle1, hrow1, _, h1⟩ := Ok.pubrowF (hl := _ :: _ :: hl) h
  obtain ⟨H2, hle2, hrow2, _, h2⟩ := Ok.pubrowF (hl := _ :: hl) h1
  obtain ⟨H3, hle3, hall, h3⟩ := Ok.pub_many h2 (fun p hp => hb.u p.1 (by rw [← hps]; exact List.mem_map.2 ⟨p, hp, rfl⟩))
  refine ⟨H3, vr, _, _, hle1.trans (hle2.trans hle3), rfl, ⟨hr.mono (hle1.trans (hle2.trans hle3)), ⟨cellsP ps, ?_, ?_⟩, ⟨hrow2.sl.mono hle3, hb.f⟩, hb.s, hb.rl, hb.ul, hb.fl⟩, h3⟩
  · rw [← hlen]; exact hrow1.sl.mono (hle2.trans hle3)
  · rw [← hps]; exact repL_rv hall
end
theorem SatO.pub_au {P : Program} {f : FuncId} {args : Array Value} {H : View} {p : HL} {ti tr : TypeId} {a : Au} {b : Prop} (hb : AuB a) (h : SatO P f args H p fun v H' q => OwnAu H' ti tr a v q ∧ b) :
    SatO P f args H p fun v H' q => q = [] ∧ (∃ vr vu vf, v = .agg #[vr, .int .i64 a.states, vu, vf] ∧ RepAu H' a vr vu vf) ∧ b := by
  intro w hw
  refine Calls.mono (h w hw) ?_
  rintro e w' ⟨v, H', q, rfl, hok, hown, hbb⟩
  obtain ⟨H2, vr, vu, vf, hle, hv, hrep, hok2⟩ := Ok.pub_au (hl := []) hown hb (by simpa using hok)
  exact ⟨v, H2, [], rfl, hok2, rfl, ⟨vr, vu, vf, hv, hrep⟩, hbb⟩
theorem SatO.rowshape {P : Program} {f : FuncId} {args : Array Value} {H : View} {p p' : HL} {e : TypeId} {sz k : Nat} {xs : List Value} (h : SatO P f args H p fun w _ q => q = row w e sz k xs :: p') :
    SatO P f args H p fun w _ q => ∃ a cap, w = .slice a k cap ∧ q = row (.slice a k cap) e sz k xs :: p' := by
  intro w hw
  refine Calls.mono (h w hw) ?_
  rintro e' w' ⟨v, H', q, rfl, hok, rfl⟩
  obtain ⟨a, cap, rfl⟩ := row_shape (hok.own _ List.mem_cons_self)
  exact ⟨_, H', _, rfl, hok, a, cap, rfl, rfl⟩
end Pal
