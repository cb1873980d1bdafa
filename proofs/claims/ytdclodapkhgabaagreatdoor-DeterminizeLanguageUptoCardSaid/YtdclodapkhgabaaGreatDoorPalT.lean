/-
  Trees as data, and how they lie in a view. Own work.
-/
import Derived.Test.YtdclodapkhgabaaGreatDoorPalC
namespace Pal
open Go

inductive Tr where
  | node (sym : Int) (l : List Tr)

mutual
def Tr.size : Tr → Nat
  | .node _ ts => 1 + Tr.sizes ts
def Tr.sizes : List Tr → Nat
  | [] => 0
  | t :: r => Tr.size t + Tr.sizes r
end
mutual
def Tr.deep : Tr → Nat
  | .node _ ts => Tr.deeps ts + 1
def Tr.deeps : List Tr → Nat
  | [] => 0
  | t :: r => max (Tr.deep t) (Tr.deeps r)
end
theorem Tr.sizes_append (a b : List Tr) : Tr.sizes (a ++ b) = Tr.sizes a + Tr.sizes b := by
  induction a with
  | nil => simp [Tr.sizes]
  | cons x r ih => simp only [List.cons_append, Tr.sizes, ih]; omega
theorem Tr.sizes_take (ts : List Tr) (k : Nat) (h : k < ts.length) : Tr.sizes (ts.take (k + 1)) = Tr.sizes (ts.take k) + ts[k].size := by
  rw [List.take_succ_eq_append_getElem h, Tr.sizes_append]; simp [Tr.sizes]
theorem Tr.sizes_take_le (ts : List Tr) (k : Nat) : Tr.sizes (ts.take k) ≤ Tr.sizes ts := by
  have := Tr.sizes_append (ts.take k) (ts.drop k)
  rw [List.take_append_drop] at this
  omega
theorem Tr.length_le_sizes (ts : List Tr) : ts.length ≤ Tr.sizes ts := by
  induction ts with
  | nil => simp
  | cons t r ih =>
    have : 1 ≤ t.size := by cases t; simp only [Tr.size]; omega
    simp only [List.length_cons, Tr.sizes]; omega
theorem Tr.size_pos (t : Tr) : 1 ≤ t.size := by cases t; simp only [Tr.size]; omega

theorem Tr.deeps_append (a b : List Tr) : Tr.deeps (a ++ b) = max (Tr.deeps a) (Tr.deeps b) := by
  induction a with
  | nil => simp [Tr.deeps]
  | cons x r ih => simp only [List.cons_append, Tr.deeps, ih]; omega
theorem Tr.deeps_take (ts : List Tr) (k : Nat) (h : k < ts.length) : Tr.deeps (ts.take (k + 1)) = max (Tr.deeps (ts.take k)) ts[k].deep := by
  rw [List.take_succ_eq_append_getElem h, Tr.deeps_append]; simp [Tr.deeps]
mutual
theorem Tr.deep_le : ∀ t : Tr, t.deep ≤ t.size
  | .node s ts => by have := Tr.deeps_le ts; simp only [Tr.deep, Tr.size]; omega
theorem Tr.deeps_le : ∀ ts : List Tr, Tr.deeps ts ≤ Tr.sizes ts
  | [] => by simp [Tr.deeps, Tr.sizes]
  | t :: r => by have := Tr.deep_le t; have := Tr.deeps_le r; simp only [Tr.deeps, Tr.sizes]; omega
end
mutual
def Tr.relabel (to : List Int) : Tr → Option Tr
  | .node s ts => if 0 ≤ s ∧ s < to.length then (Tr.relabels to ts).map (.node (to.getD s.toNat 0)) else none
def Tr.relabels (to : List Int) : List Tr → Option (List Tr)
  | [] => some []
  | t :: r => match Tr.relabel to t with
    | none => none
    | some u => (Tr.relabels to r).map (u :: ·)
end
theorem Tr.relabels_append (to : List Int) (a b : List Tr) : Tr.relabels to (a ++ b) = (Tr.relabels to a).bind fun us => (Tr.relabels to b).map (us ++ ·) := by
  induction a with
  | nil => show Tr.relabels to b = _; simp only [Tr.relabels, Option.bind_some]; cases Tr.relabels to b <;> simp
  | cons t r ih =>
    simp only [List.cons_append, Tr.relabels]
    cases Tr.relabel to t with
    | none => rfl
    | some u => rw [ih]; cases Tr.relabels to r <;> cases Tr.relabels to b <;> simp
theorem Tr.relabels_some {to : List Int} {ts us : List Tr} {k : Nat} (h : Tr.relabels to (ts.take k) = some us) (hk : k < ts.length) {u : Tr} (hu : Tr.relabel to ts[k] = some u) :
    Tr.relabels to (ts.take (k + 1)) = some (us ++ [u]) := by
  rw [List.take_succ_eq_append_getElem hk, Tr.relabels_append, h]; simp [Tr.relabels, hu]
theorem Tr.relabels_none {to : List Int} {ts us : List Tr} {k : Nat} (h : Tr.relabels to (ts.take k) = some us) (hk : k < ts.length) (hu : Tr.relabel to ts[k] = none) :
    Tr.relabels to ts = none := by
  have : ts = ts.take (k + 1) ++ ts.drop (k + 1) := (List.take_append_drop _ _).symm
  rw [this, Tr.relabels_append, List.take_succ_eq_append_getElem hk, Tr.relabels_append, h]; simp [Tr.relabels, hu]
def cmpI (a b : Int) : Int := if a < b then -1 else if b < a then 1 else 0
theorem cmpI_self (a : Int) : cmpI a a = 0 := by simp [cmpI]
mutual
def Tr.cmp : Tr → Tr → Int
  | .node s ts, t => match t with
    | .node u us =>
      if cmpI (Tr.node s ts).size (Tr.node u us).size ≠ 0 then cmpI (Tr.node s ts).size (Tr.node u us).size
      else if cmpI s u ≠ 0 then cmpI s u
      else if cmpI ts.length us.length ≠ 0 then cmpI ts.length us.length
      else Tr.cmps ts us
def Tr.cmps : List Tr → List Tr → Int
  | [], _ => 0
  | _ :: _, [] => 0
  | s :: r, t :: q => if Tr.cmp s t ≠ 0 then Tr.cmp s t else Tr.cmps r q
end
mutual
theorem Tr.cmp_self : ∀ t : Tr, Tr.cmp t t = 0
  | .node s ts => by have := Tr.cmps_self ts; simp [Tr.cmp, cmpI_self, this]
theorem Tr.cmps_self : ∀ ts : List Tr, Tr.cmps ts ts = 0
  | [] => rfl
  | t :: r => by simp [Tr.cmps, Tr.cmp_self t, Tr.cmps_self r]
end
theorem Tr.cmps_drop {ts us : List Tr} {k : Nat} (h1 : k < ts.length) (h2 : k < us.length) :
    Tr.cmps (ts.drop k) (us.drop k) = if Tr.cmp ts[k] us[k] ≠ 0 then Tr.cmp ts[k] us[k] else Tr.cmps (ts.drop (k + 1)) (us.drop (k + 1)) := by
  rw [List.drop_eq_getElem_cons h1, List.drop_eq_getElem_cons h2]; simp [Tr.cmps]
mutual
theorem Tr.relabel_size {to : List Int} : ∀ (t u : Tr), Tr.relabel to t = some u → u.size = t.size
  | .node s ts, u, h => by
    simp only [Tr.relabel] at h
    split at h
    · cases hr : Tr.relabels to ts with
      | none => rw [hr] at h; simp at h
      | some us => rw [hr] at h; simp at h; subst h; simp only [Tr.size, Tr.relabels_size ts us hr]
    · cases h
theorem Tr.relabels_size {to : List Int} : ∀ (ts us : List Tr), Tr.relabels to ts = some us → Tr.sizes us = Tr.sizes ts
  | [], us, h => by simp [Tr.relabels] at h; subst h; rfl
  | t :: r, us, h => by
    simp only [Tr.relabels] at h
    cases ht : Tr.relabel to t with
    | none => rw [ht] at h; cases h
    | some u =>
      rw [ht] at h
      cases hr : Tr.relabels to r with
      | none => rw [hr] at h; simp at h
      | some vs => rw [hr] at h; simp at h; subst h; simp only [Tr.sizes, Tr.relabel_size t u ht, Tr.relabels_size r vs hr]
end
def i64ok (x : Int) : Prop := -9223372036854775808 ≤ x ∧ x ≤ 9223372036854775807

inductive RepT (H : View) : Tr → List Value → Prop
  | mk (s : Int) (ts : List Tr) (a : Option Addr) (cap b off : Nat) (cs : Nat → List Value) (hs : i64ok s) (ha : ts ≠ [] → a = some ⟨b, off, none⟩)
    (hA : ∀ i, i < ts.length → (cs i).length = 2 ∧ At H b (off + i * 2) (cs i)) (hr : ∀ i (h : i < ts.length), RepT H ts[i] (cs i)) :
    RepT H (.node s ts) [.int .i64 s, .slice a ts.length cap]
theorem RepT.mono {H H' : View} {t : Tr} {cs : List Value} (h : RepT H t cs) (hle : VLe H H') : RepT H' t cs := by
  induction h with
  | mk s ts a cap b off cs hs ha hA _ ih => exact .mk s ts a cap b off cs hs ha (fun i hi => ⟨(hA i hi).1, (hA i hi).2.mono hle⟩) ih
end Pal
