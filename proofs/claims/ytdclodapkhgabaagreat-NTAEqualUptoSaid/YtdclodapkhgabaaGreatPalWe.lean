/-
  An owned automaton that is read, and changed cell by cell. Own work. No statement of the seat is proved here.
-/
import Derived.Test.YtdclodapkhgabaaGreatPalTw
namespace Pal
open Go Go.Proofs Go.Proofs.X
theorem rep_of_holds {H : View} {a : Au} {ra ua fa : Option Addr} {rc uc fc : Nat} {ps : List (Rl × Value)} {ti tr : TypeId} (hR : SI H (.slice ra a.ranks.length rc) a.ranks) (hps : ps.map (·.1) = a.rules) (hab : AuB a)
    (h : ∀ e ∈ [row (.slice ua ps.length uc) tr 3 ps.length (cellsP ps), row (.slice fa a.final.length fc) ti 1 a.final.length (ints a.final), many (rowsFrom ti ps)], e.holds H) : RepAu H a (.slice ra a.ranks.length rc) (.slice ua ps.length uc) (.slice fa a.final.length fc) := by
  have h1 := h _ List.mem_cons_self
  have h2 := h _ (List.mem_cons_of_mem _ List.mem_cons_self)
  have h3 := h _ (List.mem_cons_of_mem _ (List.mem_cons_of_mem _ List.mem_cons_self))
  have hl : ps.length = a.rules.length := by rw [← hps, List.length_map]
  have hrv := rv_of_many h3 fun p hp => hab.u p.1 (by rw [← hps]; exact List.mem_map.2 ⟨p, hp, rfl⟩)
  have hr := (row_view h1).1.sl
  refine ⟨hR, ⟨cellsP ps, ?_, ?_⟩, ⟨(row_view h2).1.sl, hab.f⟩, hab.s, hab.rl, hab.ul, hab.fl⟩
  · rw [← hl]; exact hr
  · rw [← hps]; exact repL_rv hrv
/-! ### One cell of a row of items -/
theorem flat_split {α : Type} {f : α → List Value} {qs : List α} {k : Nat} (hk : k < qs.length) : qs.flatMap f = (qs.take k).flatMap f ++ (f qs[k] ++ (qs.drop (k + 1)).flatMap f) := by
  have e : qs = qs.take k ++ qs[k] :: qs.drop (k + 1) := by simp
  conv => lhs; rw [e]
  rw [List.flatMap_append, List.flatMap_cons]
theorem flat_lenN {α : Type} {f : α → List Value} {sz : Nat} (hsz : ∀ x, (f x).length = sz) : ∀ qs : List α, (qs.flatMap f).length = qs.length * sz
  | [] => by simp
  | q :: qs => by rw [List.flatMap_cons, List.length_append, hsz, flat_lenN hsz qs, List.length_cons, Nat.succ_mul]; omega
theorem flat_cell {α : Type} {f : α → List Value} {sz : Nat} (hsz : ∀ x, (f x).length = sz) {qs : List α} {k j off : Nat} {v : Value} (hk : k < qs.length) (ho : off = k * sz + j) (tail : List Value) (hv : (f qs[k])[j]? = some v) : (qs.flatMap f ++ tail).toArray[off]? = some v := by
  subst ho
  have hj : j < (f qs[k]).length := (List.getElem?_eq_some_iff.1 hv).1
  have hl : ((qs.take k).flatMap f).length = k * sz := by rw [flat_lenN hsz, List.length_take, Nat.min_eq_left (by omega)]
  rw [List.getElem?_toArray, flat_split hk, List.append_assoc, List.getElem?_append_right (by omega), hl, Nat.add_sub_cancel_left, List.append_assoc, List.getElem?_append_left hj]
  exact hv
theorem flat_set {α : Type} {f : α → List Value} {sz : Nat} (hsz : ∀ x, (f x).length = sz) {qs : List α} {k j off : Nat} {v : Value} {q : α} (hk : k < qs.length) (hj : j < sz) (ho : off = k * sz + j) (tail : List Value) (hq : f q = (f qs[k]).set j v) (hv : v.cells.toList = [v]) :
    putCells (qs.flatMap f ++ tail).toArray off v.cells.toList = ((qs.take k ++ q :: qs.drop (k + 1)).flatMap f ++ tail).toArray := by
  subst ho
  have hl : ((qs.take k).flatMap f).length = k * sz := by rw [flat_lenN hsz, List.length_take, Nat.min_eq_left (by omega)]
  have hlq := flat_lenN hsz qs
  have hb : k * sz + j < qs.length * sz := by
    have h1 : (k + 1) * sz ≤ qs.length * sz := Nat.mul_le_mul_right _ hk
    rw [Nat.add_mul, Nat.one_mul] at h1; omega
  rw [hv, putCells_one (by rw [List.size_toArray, List.length_append]; omega), List.setIfInBounds_toArray]
  congr 1
  rw [flat_split hk, List.append_assoc, List.set_append_right _ _ (by omega), hl, Nat.add_sub_cancel_left, List.append_assoc, List.set_append_left _ _ (by rw [hsz]; exact hj), ← hq, List.flatMap_append, List.flatMap_cons, List.append_assoc, List.append_assoc]
theorem set_mid {α : Type} {qs : List α} {k : Nat} (hk : k < qs.length) (q : α) : qs.take k ++ q :: qs.drop (k + 1) = qs.set k q := by
  rw [List.set_eq_take_append_cons_drop, if_pos hk]
theorem mid_len {α : Type} {qs : List α} {k : Nat} (hk : k < qs.length) (q : α) : (qs.take k ++ q :: qs.drop (k + 1)).length = qs.length := by rw [set_mid hk, List.length_set]
theorem mid_get {α : Type} {qs : List α} {k : Nat} (hk : k < qs.length) (q : α) : (qs.take k ++ q :: qs.drop (k + 1))[k]'(by rw [mid_len hk]; exact hk) = q := by
  have h0 : (qs.take k).length = k := by rw [List.length_take]; omega
  rw [List.getElem_append_right (by omega)]
  simp only [h0, Nat.sub_self, List.getElem_cons_zero]
theorem cellI_set (x y : Int) : cellI y = (cellI x).set 0 (.int .i64 y) := rfl
/-- The same cells, whatever the sources. -/
theorem cellsP_mid (A B : List (Rl × Value)) (s t : Int) (xs ys : List Int) (v : Value) : cellsP (A ++ (⟨s, xs, t⟩, v) :: B) = cellsP (A ++ (⟨s, ys, t⟩, v) :: B) := by
  unfold cellsP
  rw [List.flatMap_append, List.flatMap_append, List.flatMap_cons, List.flatMap_cons]
  rfl
section rules
variable {P : Program} {n : Nat} {c : Cx} {Q : Exit → Act → World → Prop} {l : KL} {hl : HL} {H : View}
theorem KC_takeAt {code : Code} {ti : TypeId} {ps : List (Rl × Value)} {k : Nat} (hk : k < ps.length) (h : KC P n c code Q l (row ps[k].2 ti 1 ps[k].1.args.length (ints ps[k].1.args) :: many (rowsFrom ti (ps.take k ++ ps.drop (k + 1))) :: hl) H) : KC P n c code Q l (many (rowsFrom ti ps) :: hl) H := by
  have e : ps = ps.take k ++ ps[k] :: ps.drop (k + 1) := by simp
  rw [show rowsFrom ti ps = rowsFrom ti (ps.take k ++ ps[k] :: ps.drop (k + 1)) from congrArg _ e]
  exact KC_takerow _ _ _ h
end rules
end Pal
namespace Pal
open Go Go.Proofs Go.Proofs.X
/-- A call that reads some things owned. -/
theorem Sat.lends {P : Program} {f : FuncId} {args : Array Value} {H : View} (p : HL) {post : Value → Prop} (h : ∀ H2, VLe H H2 → (∀ e ∈ p, e.holds H2) → Sat P f args H2 (fun v _ => post v)) : SatO P f args H p (fun v H' q => H' = H ∧ q = p ∧ post v) := by
  have h2 := SatO.lend (P := P) (f := f) (args := args) (H := H) (hl := []) p (post := fun v q => q = [] ∧ post v) (fun H2 hle hh => (h H2 hle hh).nil)
  refine SatO.mono' h2 ?_
  rintro v H' q ⟨rfl, q', rfl, rfl, hp⟩
  exact ⟨rfl, rfl, hp⟩
end Pal
namespace Pal
theorem mid_mem {α : Type} {qs : List α} {k : Nat} {q x : α} (h : x ∈ qs.take k ++ q :: qs.drop (k + 1)) : x = q ∨ x ∈ qs := by
  rcases List.mem_append.1 h with h | h
  · exact .inr (List.mem_of_mem_take h)
  · rcases List.mem_cons.1 h with h | h
    · exact .inl h
    · exact .inr (List.mem_of_mem_drop h)
end Pal
