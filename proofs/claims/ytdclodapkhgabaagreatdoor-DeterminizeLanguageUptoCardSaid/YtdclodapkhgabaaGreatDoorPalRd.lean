/-
  Reading arguments, by their types: slices, rules, automata. Own work. No statement of the seat is proved here.
-/
import Derived.Test.YtdclodapkhgabaaGreatDoorPalP
import Derived.Test.YtdclodapkhgabaaGreatDoorPalX
namespace Pal
open Go Go.ChangeShapes Go.WideShapes Go.RowKit
section
variable {H : Type} {enc : TypeId × Value → H} {P : Program} {w : World} {sp : Nat → Bool} {held : Bool}
/-- Every reading at type t is of some y, laid as R says, and no greater than B says of the reading's measure. -/
def RdAt {α : Type} (enc : TypeId × Value → H) (P : Program) (w : World) (sp : Nat → Bool) (held : Bool) (f : DataW H → Nat) (t : TypeId) (R : α → List Value → Prop) (B : α → Nat → Prop) : Prop :=
  ∀ (fuel : Nat) (cs : List Value) (x : DataW H × List MemPlace), DataW.trod enc P w 0 sp held fuel t cs = some x → ∃ y, R y cs ∧ B y (f x.1)
structure Bulk1 (f : DataW H → Nat) (g : List (DataW H) → Nat) : Prop where
  b : Bulk f g
  pos : ∀ d, 1 ≤ f d
theorem Bulk1.len {f : DataW H → Nat} {g : List (DataW H) → Nat} (hB : Bulk1 f g) : ∀ ds : List (DataW H), ds.length ≤ g ds
  | [] => by simp
  | d :: r => by have := hB.len r; have := hB.pos d; rw [hB.b.cons, List.length_cons]; omega
theorem Bulk1.mem {f : DataW H → Nat} {g : List (DataW H) → Nat} (hB : Bulk1 f g) : ∀ {ds : List (DataW H)} {d : DataW H}, d ∈ ds → f d ≤ g ds
  | [], _, h => by cases h
  | e :: r, d, h => by
    rw [hB.b.cons]
    rcases List.mem_cons.1 h with rfl | h
    · omega
    · have := hB.mem h; omega
theorem rd_int {f : DataW H → Nat} {t : TypeId} (ht : P.underlying t = some (.int .i64)) : RdAt enc P w sp held f t RI (fun _ _ => True) := by
  intro fuel cs x h
  obtain ⟨n, h1, h2⟩ := read_int ht h
  exact ⟨n, ⟨h2, h1⟩, trivial⟩
theorem rd_bool {f : DataW H → Nat} {t : TypeId} (ht : P.underlying t = some .bool) : RdAt enc P w sp held f t RB (fun _ _ => True) := by
  intro fuel cs x h
  obtain ⟨b, h1, _⟩ := DataW.trod_bool ht h
  exact ⟨b, h1, trivial⟩
def RSl {α : Type} (Hv : View) (R : α → List Value → Prop) (sz : Nat) (xs : List α) (cs : List Value) : Prop := ∃ v cells, cs = [v] ∧ SlAt Hv v xs.length cells ∧ RepL R sz xs cells
def BSl {α : Type} (B : α → Nat → Prop) (xs : List α) (n : Nat) : Prop := xs.length ≤ n ∧ ∀ x ∈ xs, B x n
theorem repL_range {α : Type} {R : α → List Value → Prop} {sz : Nat} {T : Nat → α} {rc : Nat → List Value} : ∀ {n : Nat}, (∀ i, i < n → R (T i) (rc i) ∧ (rc i).length = sz) → RepL R sz ((List.range n).map T) ((List.range n).flatMap rc)
  | 0, _ => .nil
  | n + 1, h => by
    rw [range_map_succ, List.range_succ, List.flatMap_append]
    simp only [List.flatMap_cons, List.flatMap_nil, List.append_nil]
    exact (repL_range fun i hi => h i (by omega)).snoc (h n (by omega)).1 (h n (by omega)).2
theorem rd_slice {α : Type} [Inhabited α] {f : DataW H → Nat} {g : List (DataW H) → Nat} (hB : Bulk1 f g) {t e : TypeId} {sz : Nat} {R : α → List Value → Prop} {B : α → Nat → Prop} (hm : ∀ y n m, n ≤ m → B y n → B y m) (ht : P.underlying t = some (.slice e)) (hce : P.cellsOf e = sz) (hsz : 0 < sz)
    (hR : RdAt enc P w sp held f e R B) : RdAt enc P w sp held f t (RSl (heapOf w) R sz) (BSl B) := by
  intro fuel cs x h
  obtain ⟨a, len, cap, b, off, elems, rest, rc, rfl, hlen, ha, hx, hel⟩ := read_slice ht hce hsz h
  have hsub : ∀ i (hi : i < elems.length), ∃ y, R y (rc i) ∧ B y (f elems[i].1) := by
    intro i hi
    obtain ⟨_, _, m, _, h3⟩ := hel i hi
    exact hR m _ _ h3
  let T : Nat → α := fun i => if h : i < elems.length then Classical.choose (hsub i h) else default
  have hT : ∀ i (hi : i < elems.length), R (T i) (rc i) ∧ B (T i) (f elems[i].1) := by
    intro i hi
    simp only [T, hi, dif_pos]
    exact Classical.choose_spec (hsub i hi)
  refine ⟨(List.range len).map T, ⟨_, (List.range len).flatMap rc, rfl, ⟨a, cap, by simp, ?_⟩, repL_range fun i hi => ⟨(hT i (by omega)).1, (hel i (by omega)).1⟩⟩, ?_, ?_⟩
  · rcases Nat.eq_zero_or_pos len with h0 | h0
    · subst h0; exact .inl ⟨by simp, by simp⟩
    · exact .inr ⟨b, off, ha h0, At.join hsz h0 fun i hi => ⟨(hel i (by omega)).1, (hel i (by omega)).2.1⟩⟩
  · rw [List.length_map, List.length_range]
    rcases hx with ⟨_, h0⟩ | hx
    · omega
    · rw [hx, hB.b.sl]
      have := hB.len (elems.map (·.1))
      rw [List.length_map] at this
      omega
  · intro y hy
    obtain ⟨i, hi, rfl⟩ := List.mem_map.1 hy
    have hi' := List.mem_range.1 hi
    refine hm _ _ _ ?_ (hT i (by omega)).2
    rcases hx with ⟨_, h0⟩ | hx
    · omega
    · rw [hx, hB.b.sl]
      have := hB.mem (List.mem_map_of_mem (f := fun (p : DataW H × List MemPlace) => p.1) (List.getElem_mem (show i < elems.length by omega)))
      omega
/-- A struct's fields, each at its own place, one cell each. -/
def FldT (P : Program) (fd : Field) (t : TypeId) (o : Nat) : Prop := fd.type = t ∧ fd.offset = o
theorem RSl.si {Hv : View} {xs : List Int} {cs : List Value} (h : RSl Hv RI 1 xs cs) : ∃ v, cs = [v] ∧ SI Hv v xs := by
  obtain ⟨v, cells, rfl, h1, h2⟩ := h
  obtain ⟨rfl, h3⟩ := h2.eq_ints
  exact ⟨v, rfl, h1, h3⟩
theorem RepL.eq_bools {xs : List Bool} {cells : List Value} (h : RepL RB 1 xs cells) : cells = bools xs := by
  induction h with
  | nil => rfl
  | cons h _ _ ih => rw [h, ih]; rfl
theorem RSl.sb {Hv : View} {xs : List Bool} {cs : List Value} (h : RSl Hv RB 1 xs cs) : ∃ v, cs = [v] ∧ SB Hv v xs := by
  obtain ⟨v, cells, rfl, h1, h2⟩ := h
  have := h2.eq_bools
  subst this
  exact ⟨v, rfl, h1⟩
theorem RSl.ssi {Hv : View} {xss : List (List Int)} {cs : List Value} (h : RSl Hv (RSl Hv RI 1) 1 xss cs) : ∃ v, cs = [v] ∧ SSI Hv v xss := by
  obtain ⟨v, cells, rfl, h1, h2⟩ := h
  exact ⟨v, rfl, cells, h1, h2.imp fun xs cs hx => by
    obtain ⟨u, h3, h4⟩ := hx.si
    exact ⟨u, h3, h4⟩⟩
/-- sym, from, to -/
structure RuleT (P : Program) (t ts ti : TypeId) : Prop where
  u : ∃ f1 f2 f3 : Field, P.underlying t = some (.struct #[f1, f2, f3]) ∧ FldT P f1 ti 0 ∧ FldT P f2 ts 1 ∧ FldT P f3 ti 2
  us : P.underlying ts = some (.slice ti)
  ui : P.underlying ti = some (.int .i64)
  ct : P.cellsOf t = 3
  cs : P.cellsOf ts = 1
  ci : P.cellsOf ti = 1
def RepR0 (Hv : View) (r : Rl) (cs : List Value) : Prop := ∃ v, cs = [.int .i64 r.sym, v, .int .i64 r.to] ∧ SI Hv v r.args ∧ i64ok r.sym ∧ i64ok r.to
instance : Inhabited Rl := ⟨⟨0, [], 0⟩⟩
theorem one_of {cs : List Value} {v : Value} (h : cs = [v]) : cs = [v] := h
theorem rd_rule {f : DataW H → Nat} {g : List (DataW H) → Nat} (hB : Bulk1 f g) {t ts ti : TypeId} (hT : RuleT P t ts ti) : RdAt enc P w sp held f t (RepR0 (heapOf w)) (fun r n => r.args.length ≤ n) := by
  obtain ⟨f1, f2, f3, hu, ⟨t1, o1⟩, ⟨t2, o2⟩, ⟨t3, o3⟩⟩ := hT.u
  intro fuel cs x h
  obtain ⟨xs, n, rfl, rfl, hcl, hxl, hxs⟩ := DataW.trod_struct hu h
  rw [hT.ct] at hcl
  obtain ⟨c0, c1, c2, rfl⟩ : ∃ c0 c1 c2, cs = [c0, c1, c2] := by
    match cs, hcl with
    | [a, b, c], _ => exact ⟨a, b, c, rfl⟩
  obtain ⟨y0, y1, y2, rfl⟩ : ∃ y0 y1 y2, xs = [y0, y1, y2] := by
    match xs, hxl with
    | [a, b, c], _ => exact ⟨a, b, c, rfl⟩
  have h0 := hxs 0 f1 rfl
  have h1 := hxs 1 f2 rfl
  have h2 := hxs 2 f3 rfl
  rw [t1, o1, hT.ci] at h0
  rw [t2, o2, hT.cs] at h1
  rw [t3, o3, hT.ci] at h2
  obtain ⟨s, e0, hs⟩ := read_int hT.ui h0
  obtain ⟨q, e2, hq⟩ := read_int hT.ui h2
  obtain ⟨ys, hr, hb, _⟩ := rd_slice hB (fun _ _ _ _ _ => trivial) hT.us hT.ci (by decide) (rd_int hT.ui) _ _ _ h1
  obtain ⟨v, e1, hv⟩ := hr.si
  have e0' : c0 = .int .i64 s := by simpa using e0
  have e1' : c1 = v := by simpa using e1
  have e2' : c2 = .int .i64 q := by simpa using e2
  subst e0' e1' e2'
  refine ⟨⟨s, ys, q⟩, ⟨_, rfl, hv, hs, hq⟩, ?_⟩
  simp only [List.map_cons, List.map_nil, hB.b.agg, hB.b.cons]
  have : f y1.1 ≤ f y1.1 := Nat.le_refl _
  omega
/-- ranks, states, rules, final -/
structure AutoT (P : Program) (t tr tu ts ti : TypeId) : Prop where
  u : ∃ f1 f2 f3 f4 : Field, P.underlying t = some (.struct #[f1, f2, f3, f4]) ∧ FldT P f1 ts 0 ∧ FldT P f2 ti 1 ∧ FldT P f3 tu 2 ∧ FldT P f4 ts 3
  r : RuleT P tr ts ti
  uu : P.underlying tu = some (.slice tr)
  ct : P.cellsOf t = 4
  cu : P.cellsOf tu = 1
theorem rd_auto {f : DataW H → Nat} {g : List (DataW H) → Nat} (hB : Bulk1 f g) {t tr tu ts ti : TypeId} (hT : AutoT P t tr tu ts ti) : RdAt (α := Au) enc P w sp held f t (fun a cs => ∃ vr vu vf, cs = [vr, .int .i64 a.states, vu, vf] ∧ (a.ranks.length ≤ 1048576 ∧ a.rules.length ≤ 1048576 ∧ a.final.length ≤ 1048576 ∧ (∀ r ∈ a.rules, r.args.length ≤ 1048576) → RepAu (heapOf w) a vr vu vf))
    (fun a n => a.ranks.length ≤ n ∧ a.rules.length ≤ n ∧ a.final.length ≤ n ∧ ∀ r ∈ a.rules, r.args.length ≤ n) := by
  obtain ⟨f1, f2, f3, f4, hu, ⟨t1, o1⟩, ⟨t2, o2⟩, ⟨t3, o3⟩, ⟨t4, o4⟩⟩ := hT.u
  intro fuel cs x h
  obtain ⟨xs, n, rfl, rfl, hcl, hxl, hxs⟩ := DataW.trod_struct hu h
  rw [hT.ct] at hcl
  obtain ⟨c0, c1, c2, c3, rfl⟩ : ∃ c0 c1 c2 c3, cs = [c0, c1, c2, c3] := by
    match cs, hcl with
    | [a, b, c, d], _ => exact ⟨a, b, c, d, rfl⟩
  obtain ⟨y0, y1, y2, y3, rfl⟩ : ∃ y0 y1 y2 y3, xs = [y0, y1, y2, y3] := by
    match xs, hxl with
    | [a, b, c, d], _ => exact ⟨a, b, c, d, rfl⟩
  have h0 := hxs 0 f1 rfl
  have h1 := hxs 1 f2 rfl
  have h2 := hxs 2 f3 rfl
  have h3 := hxs 3 f4 rfl
  rw [t1, o1, hT.r.cs] at h0
  rw [t2, o2, hT.r.ci] at h1
  rw [t3, o3, hT.cu] at h2
  rw [t4, o4, hT.r.cs] at h3
  obtain ⟨rs, hr, hrb, _⟩ := rd_slice hB (fun _ _ _ _ _ => trivial) hT.r.us hT.r.ci (by decide) (rd_int hT.r.ui) _ _ _ h0
  obtain ⟨st, e1, hst⟩ := read_int hT.r.ui h1
  obtain ⟨us, hus, hub, hub2⟩ := rd_slice (B := fun (r : Rl) n => r.args.length ≤ n) hB (fun _ _ _ h1 h2 => Nat.le_trans h2 h1) hT.uu hT.r.ct (by decide) (rd_rule hB hT.r) _ _ _ h2
  obtain ⟨fs, hf, hfb, _⟩ := rd_slice hB (fun _ _ _ _ _ => trivial) hT.r.us hT.r.ci (by decide) (rd_int hT.r.ui) _ _ _ h3
  obtain ⟨vr, e0, hvr⟩ := hr.si
  obtain ⟨vf, e3, hvf⟩ := hf.si
  obtain ⟨vu, cells, e2, hvu, hcells⟩ := hus
  have e0' : c0 = vr := by simpa using e0
  have e1' : c1 = .int .i64 st := by simpa using e1
  have e2' : c2 = vu := by simpa using e2
  have e3' : c3 = vf := by simpa using e3
  subst e0' e1' e2' e3'
  have hsum : f (.agg ([y0, y1, y2, y3].map (·.1))) = f y0.1 + (f y1.1 + (f y2.1 + (f y3.1 + 0))) + 1 := by
    simp only [List.map_cons, List.map_nil, hB.b.agg, hB.b.cons, hB.b.nil]
  refine ⟨⟨rs, st, us, fs⟩, ⟨_, _, _, rfl, ?_⟩, ?_⟩
  · rintro ⟨b1, b2, b3, b4⟩
    refine ⟨hvr, ⟨cells, hvu, ?_⟩, hvf, hst, Nat.le_trans b1 (by decide), Nat.le_trans b2 (by decide), Nat.le_trans b3 (by decide)⟩
    have key : ∀ {us : List Rl} {cells : List Value}, (∀ r ∈ us, r.args.length ≤ 1048576) → RepL (RepR0 (heapOf w)) 3 us cells → RepL (RepR (heapOf w)) 3 us cells := by
      intro us cells hb hc
      induction hc with
      | nil => exact .nil
      | cons hx hl _ ih =>
        obtain ⟨v, rfl, h1, h2, h3⟩ := hx
        obtain ⟨va, vc, rfl⟩ := h1.shape
        exact .cons ⟨va, vc, rfl, h1, h2, h3, Nat.le_trans (hb _ (by simp)) (by decide)⟩ hl (ih fun r hr => hb r (List.mem_cons_of_mem _ hr))
    exact key b4 hcells
  · dsimp only
    rw [hsum]
    exact ⟨by omega, by omega, by omega, fun r hr => by have := hub2 r hr; omega⟩
/-- ranks, final, to -/
structure DtaT (P : Program) (t ts tb tss ti tbool : TypeId) : Prop where
  u : ∃ f1 f2 f3 : Field, P.underlying t = some (.struct #[f1, f2, f3]) ∧ FldT P f1 ts 0 ∧ FldT P f2 tb 1 ∧ FldT P f3 tss 2
  us : P.underlying ts = some (.slice ti)
  ub : P.underlying tb = some (.slice tbool)
  uss : P.underlying tss = some (.slice ts)
  ui : P.underlying ti = some (.int .i64)
  ubo : P.underlying tbool = some .bool
  ct : P.cellsOf t = 3
  cs : P.cellsOf ts = 1
  cb : P.cellsOf tb = 1
  css : P.cellsOf tss = 1
  ci : P.cellsOf ti = 1
  cbo : P.cellsOf tbool = 1
theorem rd_dta {f : DataW H → Nat} {g : List (DataW H) → Nat} (hB : Bulk1 f g) {t ts tb tss ti tbool : TypeId} (hT : DtaT P t ts tb tss ti tbool) : RdAt (α := Dt) enc P w sp held f t (fun d cs => ∃ v1 v2 v3, cs = [v1, v2, v3] ∧ RepDt (heapOf w) d v1 v2 v3)
    (fun d n => d.ranks.length ≤ n ∧ d.acc.length ≤ n ∧ d.to.length ≤ n ∧ ∀ x ∈ d.to, x.length ≤ n) := by
  obtain ⟨f1, f2, f3, hu, ⟨t1, o1⟩, ⟨t2, o2⟩, ⟨t3, o3⟩⟩ := hT.u
  intro fuel cs x h
  obtain ⟨xs, n, rfl, rfl, hcl, hxl, hxs⟩ := DataW.trod_struct hu h
  rw [hT.ct] at hcl
  obtain ⟨c0, c1, c2, rfl⟩ : ∃ c0 c1 c2, cs = [c0, c1, c2] := by
    match cs, hcl with
    | [a, b, c], _ => exact ⟨a, b, c, rfl⟩
  obtain ⟨y0, y1, y2, rfl⟩ : ∃ y0 y1 y2, xs = [y0, y1, y2] := by
    match xs, hxl with
    | [a, b, c], _ => exact ⟨a, b, c, rfl⟩
  have h0 := hxs 0 f1 rfl
  have h1 := hxs 1 f2 rfl
  have h2 := hxs 2 f3 rfl
  rw [t1, o1, hT.cs] at h0
  rw [t2, o2, hT.cb] at h1
  rw [t3, o3, hT.css] at h2
  obtain ⟨rs, hr, hrb, _⟩ := rd_slice hB (fun _ _ _ _ _ => trivial) hT.us hT.ci (by decide) (rd_int hT.ui) _ _ _ h0
  obtain ⟨bs, hbs, hbb, _⟩ := rd_slice hB (fun _ _ _ _ _ => trivial) hT.ub hT.cbo (by decide) (rd_bool hT.ubo) _ _ _ h1
  obtain ⟨ts', hts, htb, htb2⟩ := rd_slice (B := BSl fun _ _ => True) hB (fun _ _ _ h1 h2 => ⟨Nat.le_trans h2.1 h1, h2.2⟩) hT.uss hT.cs (by decide) (rd_slice hB (fun _ _ _ _ _ => trivial) hT.us hT.ci (by decide) (rd_int hT.ui)) _ _ _ h2
  obtain ⟨v1, e0, hv1⟩ := hr.si
  obtain ⟨v2, e1, hv2⟩ := hbs.sb
  obtain ⟨v3, e2, hv3⟩ := hts.ssi
  have e0' : c0 = v1 := by simpa using e0
  have e1' : c1 = v2 := by simpa using e1
  have e2' : c2 = v3 := by simpa using e2
  subst e0' e1' e2'
  have hsum : f (.agg ([y0, y1, y2].map (·.1))) = f y0.1 + (f y1.1 + (f y2.1 + 0)) + 1 := by
    simp only [List.map_cons, List.map_nil, hB.b.agg, hB.b.cons, hB.b.nil]
  refine ⟨⟨rs, bs, ts'⟩, ⟨_, _, _, rfl, hv1, hv2, hv3⟩, ?_⟩
  dsimp only
  rw [hsum]
  exact ⟨by omega, by omega, by omega, fun x hx => by have := (htb2 x hx).1; omega⟩
theorem agg_of {v : Value} {cs : List Value} (h : v.cells.toList = cs) (hl : cs.length ≠ 1) : v = .agg cs.toArray := by
  subst h
  cases v with
  | agg c => rfl
  | _ => exact absurd rfl hl
theorem okw_agg {base : Nat} {t : TypeId} {c2 : Array Value} (ht : (∃ e, P.underlying t = some (.slice e)) ∨ ∃ k, P.underlying t = some (.int k)) (h : Value.okWide P w .any base t (.agg c2)) : False := by
  unfold Value.okWide at h
  rcases ht with ⟨e, ht⟩ | ⟨k, ht⟩ <;>
  · rw [ht] at h
    unfold Cell.okWide at h
    rw [ht] at h
    dsimp only at h
    unfold Cell.ok at h
    rw [ht] at h
    exact h
theorem okw_cell {base : Nat} {t : TypeId} {v u : Value} (ht : (∃ e, P.underlying t = some (.slice e)) ∨ ∃ k, P.underlying t = some (.int k)) (h : Value.okWide P w .any base t v) (hc : v.cells.toList = [u]) : v = u := by
  cases v with
  | agg c2 => exact (okw_agg ht h).elim
  | _ => exact List.head_eq_of_cons_eq hc
end
end Pal
