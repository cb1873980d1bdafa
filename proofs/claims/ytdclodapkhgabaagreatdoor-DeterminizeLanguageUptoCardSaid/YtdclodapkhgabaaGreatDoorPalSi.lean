/-
  slices.Sort at ints, over owned rows. Own work. No statement of the seat is proved here.
-/
import Derived.Test.YtdclodapkhgabaaGreatDoorPalCp
import Derived.Shelf.SortG.Plain
import Derived.Shelf.SortG.SortNone
namespace Pal
open Go Go.Proofs Go.Shelf Go.Sort
variable {P : Program} {ρ : Go.Shelf.Ren}
theorem sortInts (L : SlLaysN.n53 P ρ) (H : View) (e : TypeId) (xs : List Int) (v : Value) (hlen : xs.length < 4611686018427387904) :
    SatO P (ρ.f 53) #[v] H [row v e 1 xs.length (ints xs)] (fun r H' q => r = .tuple #[] ∧ H' = H ∧ ∃ ys, ys.Perm xs ∧ ys.Pairwise (· ≤ ·) ∧ q = [row v e 1 ys.length (ints ys)]) := by
  intro w hw
  obtain ⟨hl1, hrow⟩ := hw.own _ (List.mem_cons_self ..)
  rcases hrow with ⟨rfl, h0⟩ | ⟨gb, cap, cur, rfl, hgb, hk, hc, hs, ht⟩
  · have hnil : xs = [] := List.eq_nil_of_length_eq_zero h0
    subst hnil
    refine Calls.mono (AnyG.slices_Sort_int_none L none 0 w) ?_
    rintro e w' ⟨rfl, rfl⟩
    exact ⟨_, H, _, rfl, hw.ok, rfl, rfl, [], List.Perm.refl _, List.Pairwise.nil, rfl⟩
  · have hH : Holds (Value.int .i64) w gb 0 xs.toArray := holds_of_row hgb (by simpa [ints] using ht)
    refine Calls.mono (AnyG.slices_Sort_int L gb 0 cap xs w hH (lt_of_heap hgb) hlen) ?_
    rintro e w' ⟨rfl, n, os, rfl⟩
    have hp := List.mergeSort_perm xs (fun x y => decide (x ≤ y))
    have hsz := hp.length_eq
    refine ⟨_, H, _, rfl, ok_sorted (enc := Value.int .i64) (n := n) (os := os) hw hgb hk hc hs (by simp [hsz]), rfl, rfl, xs.mergeSort (fun x y => decide (x ≤ y)), hp, ?_, ?_⟩
    · have := List.pairwise_mergeSort (le := fun x y : Int => decide (x ≤ y)) (fun a b c h1 h2 => by simp at *; omega) (fun a b => by simp; omega) xs
      exact this.imp fun h => by simpa using h
    · rw [hsz]; simp [ints]
end Pal
