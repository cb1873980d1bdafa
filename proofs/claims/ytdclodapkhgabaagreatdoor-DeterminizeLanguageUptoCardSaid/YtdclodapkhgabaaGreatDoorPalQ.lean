/-
  Slices that may be read, whether they lie in the view or are owned; the reference's subset construction in plain lists. Own work. No statement of the seat is proved here.
-/
import Derived.Test.YtdclodapkhgabaaGreatDoorPalK
namespace Pal
open Go
section
variable {P : Program} {n : Nat} {c : Cx} {Q : Exit → Act → World → Prop} {l : KL} {hl : HL} {H : View} {ops : Array Oper} {rest : List Oper}
theorem Ok.pubrowP {w : World} {v : Value} {e : TypeId} {sz k : Nat} {xs : List Value} (h : Ok c w H (row v e sz k xs :: hl)) (hsub : ∀ x ∈ c.pass, x ∈ feet hl) : ∃ H', VLe H H' ∧ rowAt H' v k xs ∧ Ok c w H' hl := by
  refine h.pubrow fun b hb hp => ?_
  have hnd := h.nd
  rw [feet_cons, List.nodup_append] at hnd
  exact hnd.2.2 b hb b (hsub b hp) rfl
theorem KQ_pubrowP {v : Value} {e : TypeId} {sz k : Nat} {xs : List Value} {x : Exit} (hsub : ∀ x ∈ c.pass, x ∈ feet hl) (h : ∀ H', VLe H H' → rowAt H' v k xs → KQ n c Q x l hl H') : KQ n c Q x l (row v e sz k xs :: hl) H := by
  intro ρ w hm ho
  obtain ⟨H', h1, h2, h3⟩ := ho.pubrowP hsub
  exact h H' h1 h2 ρ w hm h3
theorem KO_pubrowP {v : Value} {e : TypeId} {sz k : Nat} {xs : List Value} (hsub : ∀ x ∈ c.pass, x ∈ feet hl) (h : ∀ H', VLe H H' → rowAt H' v k xs → KO P n c ops Q rest l hl H') : KO P n c ops Q rest l (row v e sz k xs :: hl) H := by
  intro ρ w hm ho
  obtain ⟨H', h1, h2, h3⟩ := ho.pubrowP hsub
  exact h H' h1 h2 ρ w hm h3
/-- A slice's cells can be read by whoever holds p. -/
structure Rd (H : View) (p : HL) (v : Value) (n : Nat) (cells : List Value) : Prop where
  sh : ∃ a cap, v = .slice a n cap ∧ (n = 0 ∨ ∃ b off, a = some ⟨b, off, none⟩)
  rd : ∀ a k cap, v = .slice (some a) k cap → ∀ w, Has w H p → ∀ j u, cells[j]? = some u → w.cell? (a.add j) = some u
theorem Has.le2 {w : World} {H H' : View} {p : HL} (hle : VLe H H') (h : Has w H' p) : Has w H p := h.le hle
theorem Rd.mono {H H' : View} {p : HL} {v : Value} {n : Nat} {cells : List Value} (h : Rd H p v n cells) (hle : VLe H H') : Rd H' p v n cells :=
  ⟨h.sh, fun a k cap hv w hh => h.rd a k cap hv w (hh.le hle)⟩
theorem SlAt.rd {H : View} {v : Value} {n : Nat} {cells : List Value} (h : SlAt H v n cells) : Rd H [] v n cells := by
  obtain ⟨a, cap, rfl, h2⟩ := h
  constructor
  · refine ⟨a, cap, rfl, ?_⟩
    rcases h2 with ⟨rfl, _⟩ | ⟨b, off, rfl, _⟩
    · exact .inl rfl
    · exact .inr ⟨b, off, rfl⟩
  · intro a' k cap' hv w hw j u hj
    cases hv
    rcases h2 with ⟨rfl, rfl⟩ | ⟨b, off, hb, hA⟩
    · simp at hj
    · cases hb
      exact hA.cell hw.has j u hj
theorem row_rd {H : View} {v : Value} {e : TypeId} {sz k : Nat} {cells : List Value} (hs : subsV v k) : Rd H [row v e sz k cells] v k cells := by
  constructor
  · rcases hs with ⟨rfl, rfl⟩ | ⟨g, cap, rfl⟩
    · exact ⟨none, 0, rfl, .inl rfl⟩
    · exact ⟨_, cap, rfl, .inr ⟨g, 0, rfl⟩⟩
  · intro a k' cap' hv w hw j u hj
    have hr := hw.own _ (List.mem_cons_self)
    obtain ⟨_, hr⟩ := hr
    rcases hr with ⟨hr, _⟩ | ⟨g, cap', cur, hr, hg, _, _, _, htk⟩
    · rw [hr] at hv; cases hv
    · rw [hr] at hv
      simp only [Value.slice.injEq, Option.some.injEq] at hv
      obtain ⟨rfl, _, _⟩ := hv
      have hg' : w.heap[g]? = some (.cells cur e (0, 0)) := hg
      rw [addr_add]
      rw [← htk, List.getElem?_take] at hj
      split at hj
      · simp [World.cell?, hg']; simpa using hj
      · cases hj
theorem Has.sub {w : World} {H : View} {hl p : HL} (h : Has w H hl) (hp : ∃ r, hl.Perm (p ++ r)) : Has w H p := by
  obtain ⟨r, hr⟩ := hp
  exact (h.perm hr).left
theorem permSelf (p : HL) : ∃ r, p.Perm (p ++ r) := ⟨[], by rw [List.append_nil]⟩
theorem permCons {a : Own} {hl p : HL} (h : ∃ r, hl.Perm (p ++ r)) : ∃ r, (a :: hl).Perm (p ++ r) := by
  obtain ⟨r, hr⟩ := h
  exact ⟨a :: r, (hr.cons a).trans List.perm_middle.symm⟩
theorem permAt {en : Own} {hl : HL} (i : Nat) (hi : hl[i]? = some en) : ∃ r, hl.Perm ([en] ++ r) := ⟨_, perm_erase hi⟩
theorem permNil {hl : HL} : ∃ r, hl.Perm ([] ++ r) := ⟨hl, by simp⟩
/-- A load of an element of such a slice. -/
theorem R_loadRd {t ty : TypeId} {x : Operand} {agg : Bool} {sz b off i k : Nat} {p : HL} {sl : Value} {cells vs : List Value} {v : Value} (hT : Ty P t agg sz) (hx : ev l x = some (.pointer (some ⟨b, off, none⟩)))
    (hrd : Rd H p sl k cells) (hp : ∃ r, hl.Perm (p ++ r)) (hsl : ∃ b0 o0 k0 cap, sl = .slice (some ⟨b0, o0, none⟩) k0 cap ∧ b = b0 ∧ off = o0 + i) (hvs : ∀ j u, vs[j]? = some u → cells[i + j]? = some u) (hlen : vs.length = sz) (h1 : agg = false → sz = 1) (hv : mkV agg vs = v) : ValOk P l H hl (.load t x) ty v := by
  intro ee w hk ho
  subst hv
  obtain ⟨b0, o0, k0, cap, rfl, rfl, rfl⟩ := hsl
  have hh := ho.sub hp
  have hc : ∀ j u, vs[j]? = some u → w.cell? ((⟨b, o0 + i, none⟩ : Addr).add j) = some u := by
    intro j u hj
    have := hrd.rd _ _ _ rfl w hh _ u (hvs j u hj)
    rw [addr_add] at this ⊢
    rw [Nat.add_assoc]
    exact this
  simp [ex, execOp, hk x _ hx, Instr.loadAt, Instr.sureAddr, run_loadVar hT hlen h1 w hc]
end

theorem idxOf_at {α : Type} [BEq α] [LawfulBEq α] {xs : List α} {y : α} {k : Nat} (hk : k < xs.length) (he : xs[k] = y) (hno : ∀ j (h : j < xs.length), j < k → xs[j] ≠ y) : xs.idxOf y = k := by
  induction xs generalizing k with
  | nil => simp at hk
  | cons x r ih =>
    cases k with
    | zero => simp at he; subst he; simp
    | succ k =>
      have h0 := hno 0 (by simp) (by omega)
      simp only [List.getElem_cons_zero] at h0
      have hb : (x == y) = false := beq_false_of_ne h0
      rw [List.idxOf_cons, hb, cond_false, ih (k := k) (by simpa using hk) (by simpa using he) (fun j h hj => by
        have := hno (j + 1) (by simpa using h) (by omega)
        simpa using this)]
theorem RepL.snocT {α β : Type} {R : β → List Value → Prop} {sz : Nat} {f : α → β} {xs : List α} {k : Nat} {cells cs : List Value} (hR : RepL R sz ((xs.take k).map f) cells) (hk : k < xs.length) (hx : R (f xs[k]) cs) (hl : cs.length = sz) :
    RepL R sz ((xs.take (k + 1)).map f) (cells ++ cs) := by
  rw [take_map_succ hk]; exact hR.snoc hx hl
theorem RepL.impSI {H H' : View} (hle : VLe H H') {xss : List (List Int)} {cells : List Value} (h : RepL (RSI H) 1 xss cells) : RepL (RSI H') 1 xss cells := h.imp fun _ _ hx => hx.mono hle
theorem RepL.getSI {H : View} {xss : List (List Int)} {cells : List Value} (h : RepL (RSI H) 1 xss cells) {i : Nat} (hi : i < xss.length) : ∃ xa xcp, SI H (.slice xa xss[i].length xcp) xss[i] ∧ ∀ j u, [Value.slice xa xss[i].length xcp][j]? = some u → cells[i * 1 + j]? = some u := by
  obtain ⟨cs, _, ⟨w, rfl, h2⟩, h3⟩ := h.get hi
  obtain ⟨xa, xcp, rfl⟩ := h2.shape
  exact ⟨xa, xcp, h2, h3⟩
theorem Rd.open' {H : View} {p : HL} {a : Option Addr} {n cap : Nat} {cells : List Value} (h : Rd H p (.slice a n cap) n cells) (hn : 0 < n) : ∃ b off, a = some ⟨b, off, none⟩ := by
  obtain ⟨a', cap', he, h2⟩ := h.sh
  cases he
  rcases h2 with h2 | h2
  · omega
  · exact h2

/-! ### The reference's functions -/
def refFind (l : List (List Int)) (s : List Int) : Int := if s ∈ l then (l.idxOf s : Int) else -1
def ofM (l : List (List Int)) (xs : List Int) : List (List Int) := xs.map fun i => l.getD i.toNat []
/-- All tuples of m numbers below k. -/
def tups (k : Nat) : Nat → List (List Int)
  | 0 => [[]]
  | m + 1 => (tups k m).flatMap fun xs => (List.range k).map fun (j : Nat) => xs ++ [(j : Int)]
theorem tups_len (k : Nat) : ∀ m, (tups k m).length = k ^ m
  | 0 => rfl
  | m + 1 => by
    simp only [tups, List.length_flatMap, List.length_map, List.length_range]
    rw [List.map_const', List.sum_replicate_nat, tups_len k m, Nat.pow_succ]
theorem tups_item {k : Nat} : ∀ {m : Nat} {xs : List Int}, xs ∈ tups k m → xs.length = m ∧ ∀ x ∈ xs, 0 ≤ x ∧ x < (k : Int)
  | 0, xs, h => by simp [tups] at h; subst h; simp
  | m + 1, xs, h => by
    simp only [tups, List.mem_flatMap, List.mem_map, List.mem_range] at h
    obtain ⟨ys, hys, j, hj, rfl⟩ := h
    obtain ⟨h1, h2⟩ := tups_item hys
    refine ⟨by simp [h1], fun x hx => ?_⟩
    rcases List.mem_append.1 hx with hx | hx
    · exact h2 x hx
    · simp at hx; subst hx; omega
theorem ext_eq (k : Nat) : ∀ (m : Nat) (xs : List Int), ext k m xs = (tups k m).map (xs ++ ·)
  | 0, xs => by simp [ext, tups]
  | m + 1, xs => by
    have h : ∀ (m : Nat) (xs : List Int), ext k (m + 1) xs = (ext k m xs).flatMap fun ys => (List.range k).map fun (j : Nat) => ys ++ [(j : Int)] := by
      intro m
      induction m with
      | zero => intro xs; simp [ext]; exact (List.map_eq_flatMap ..).symm
      | succ m ih =>
        intro xs
        rw [show ext k (m + 1 + 1) xs = (List.range k).flatMap fun (j : Nat) => ext k (m + 1) (xs ++ [(j : Int)]) from rfl]
        rw [show ext k (m + 1) xs = (List.range k).flatMap fun (j : Nat) => ext k m (xs ++ [(j : Int)]) from rfl]
        rw [List.flatMap_assoc]
        congr 1
        funext j
        exact ih _
    rw [h m xs, ext_eq k m xs]
    simp only [tups, List.flatMap_map, List.map_flatMap, List.map_map, Function.comp_def, List.append_assoc]
theorem ext_nil (k m : Nat) : ext k m [] = tups k m := by rw [ext_eq]; simp
/-- Whether a rule fits: its operands are in the given sets. -/
def hasAll (l : List (List Int)) (args : List Int) (k : Nat) : Bool := (List.range k).all fun i => decide (args.getD i 0 ∈ l.getD i [])
theorem hasAll_succ (l : List (List Int)) (args : List Int) (k : Nat) : hasAll l args (k + 1) = (hasAll l args k && decide (args.getD k 0 ∈ l.getD k [])) := by
  simp [hasAll, List.range_succ]
theorem hasAll_false {l : List (List Int)} {args : List Int} {k m : Nat} (h : hasAll l args k = false) (hm : k ≤ m) : hasAll l args m = false := by
  simp only [hasAll, List.all_eq_false] at h ⊢
  obtain ⟨i, hi, h2⟩ := h
  exact ⟨i, List.mem_range.2 (Nat.lt_of_lt_of_le (List.mem_range.1 hi) hm), h2⟩
def fitR (sym s : Int) (l : List (List Int)) (r : Rl) : Bool := decide (r.sym = sym ∧ r.to = s) && hasAll l r.args l.length
def refNext (a : Au) (sym : Int) (l : List (List Int)) : List Int := ((List.range a.states.toNat).filter fun (s : Nat) => a.rules.any (fitR sym (s : Int) l)).map fun (s : Nat) => (s : Int)
def refStep (a : Au) (sym : Int) (out : List (List Int)) (xs : List Int) : List (List Int) :=
  if refNext a sym (ofM out xs) ∈ out then out else out ++ [refNext a sym (ofM out xs)]
def refSteps (a : Au) (sym : Int) (xss : List (List Int)) (out : List (List Int)) : List (List Int) := xss.foldl (refStep a sym) out
def refSyms (a : Au) (was : Nat) : List Int → Int → List (List Int) → List (List Int)
  | [], _, out => out
  | r :: rs, sym, out => refSyms a was rs (sym + 1) (refSteps a sym (tups was r.toNat) out)
def refRounds (a : Au) : Nat → Int → List (List Int) → List (List Int)
  | 0, _, out => out
  | f + 1, was, out => if was < out.length then refRounds a f out.length (refSyms a out.length a.ranks 0 out) else out
def refSubs (a : Au) : List (List Int) := refRounds a 130 (-1) []
def refFinal (a : Au) (out : List (List Int)) : List Bool := out.map fun l => l.any fun x => decide (x ∈ a.final)
def refTo (a : Au) (out : List (List Int)) (s : Nat) : List Int := (tups out.length (a.ranks.getD s 0).toNat).map fun xs => refFind out (refNext a (s : Int) (ofM out xs))
def refFrom (a : Au) : Dt := ⟨a.ranks, refFinal a (refSubs a), (List.range a.ranks.length).map (refTo a (refSubs a))⟩
end Pal
