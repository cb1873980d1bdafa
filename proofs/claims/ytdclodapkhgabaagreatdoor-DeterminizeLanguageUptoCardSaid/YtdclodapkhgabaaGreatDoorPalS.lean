/-
  Sets of small numbers as one number, its words, and the plain laws of bits. Own work. No statement of the seat is proved here.
-/
import Derived.Test.YtdclodapkhgabaaGreatDoorPalI
namespace Pal
open Go

/-- Word i of the set s. -/
def wd (s i : Nat) : Nat := (s >>> (64 * i)) % 18446744073709551616
def wv (s i : Nat) : Value := .int .u64 (wd s i : Int)
def setL (s : Nat) : List Value := [wv s 0, wv s 1, wv s 2, wv s 3, wv s 4, wv s 5, wv s 6, wv s 7, wv s 8, wv s 9, wv s 10, wv s 11, wv s 12, wv s 13, wv s 14, wv s 15]
def setV (s : Nat) : Value := .agg (setL s).toArray
theorem setL_get (s : Nat) : ∀ i, i < 16 → (setL s)[i]? = some (wv s i)
  | 0, _ | 1, _ | 2, _ | 3, _ | 4, _ | 5, _ | 6, _ | 7, _ | 8, _ | 9, _ | 10, _ | 11, _ | 12, _ | 13, _ | 14, _ | 15, _ => rfl
  | i + 16, h => by omega
theorem setL_len (s : Nat) : (setL s).length = 16 := rfl
theorem setL_one (s : Nat) : (setL s).all Value.oneCell' = true := rfl
theorem setL_ext {s t : Nat} (h : ∀ i, i < 16 → wd s i = wd t i) : setL s = setL t := by
  have h' : ∀ i, i < 16 → wv s i = wv t i := fun i hi => by unfold wv; rw [h i hi]
  unfold setL
  rw [h' 0 (by omega), h' 1 (by omega), h' 2 (by omega), h' 3 (by omega), h' 4 (by omega), h' 5 (by omega), h' 6 (by omega), h' 7 (by omega), h' 8 (by omega), h' 9 (by omega), h' 10 (by omega), h' 11 (by omega),
    h' 12 (by omega), h' 13 (by omega), h' 14 (by omega), h' 15 (by omega)]
theorem wd_lt (s i : Nat) : wd s i < 18446744073709551616 := Nat.mod_lt _ (by decide)
theorem wd_testBit (s i j : Nat) : (wd s i).testBit j = (decide (j < 64) && s.testBit (64 * i + j)) := by
  unfold wd
  rw [show (18446744073709551616 : Nat) = 2 ^ 64 by decide, Nat.testBit_mod_two_pow, Nat.testBit_shiftRight]
theorem testBit_wd (s n : Nat) : s.testBit n = (wd s (n / 64)).testBit (n % 64) := by
  rw [wd_testBit, Nat.div_add_mod]
  simp [Nat.mod_lt n (by decide : 0 < 64)]
/-- A word put into its place. -/
theorem setL_put {s t k x : Nat} (hk : k < 16) (h : ∀ i, i < 16 → wd t i = if i = k then x else wd s i) : putL (setL s) k [.int .u64 (x : Int)] = setL t := by
  have hl : (putL (setL s) k [.int .u64 (x : Int)]).length = 16 := by rw [putL_length (by simp [setL_len]; omega)]; rfl
  apply List.ext_getElem?
  intro i
  by_cases hi : i < 16
  · rw [setL_get t i hi]
    unfold putL
    unfold wv
    rw [h i hi]
    by_cases e : i = k
    · subst e
      rw [List.getElem?_append_left (by simp [setL_len]; omega), List.getElem?_append_right (by rw [List.length_take]; exact Nat.min_le_left _ _)]
      simp [setL_len, Nat.min_eq_left (Nat.le_of_lt hi)]
    · rw [if_neg e]
      rcases Nat.lt_or_ge i k with h1 | h1
      · rw [List.append_assoc, List.getElem?_append_left (by simp [setL_len]; omega), List.getElem?_take_of_lt h1, setL_get s i hi]; rfl
      · have h2 : k < i := by omega
        rw [List.getElem?_append_right (by simp [setL_len]; omega), List.getElem?_drop]
        simp only [List.length_append, List.length_take, setL_len, List.length_cons, List.length_nil]
        rw [show k + (0 + 1) + (i - (min k 16 + (0 + 1))) = i by omega, setL_get s i hi]; rfl
  · rw [List.getElem?_eq_none (by omega), List.getElem?_eq_none (by rw [setL_len]; omega)]
theorem two64 : (18446744073709551616 : Nat) = 2 ^ 64 := by decide
theorem wd_or (s n i : Nat) : wd (s ||| 2 ^ n) i = if i = n / 64 then wd s i ||| 2 ^ (n % 64) else wd s i := by
  apply Nat.eq_of_testBit_eq
  intro j
  rw [wd_testBit, Nat.testBit_or, Nat.testBit_two_pow]
  by_cases hj : j < 64
  · by_cases hi : i = n / 64
    · rw [if_pos hi, Nat.testBit_or, wd_testBit, Nat.testBit_two_pow]
      have : (n = 64 * i + j) ↔ (n % 64 = j) := by omega
      simp [hj, this]
    · rw [if_neg hi, wd_testBit]
      have : ¬ (n = 64 * i + j) := by omega
      simp [hj, this]
  · by_cases hi : i = n / 64
    · rw [if_pos hi, Nat.testBit_or, wd_testBit, Nat.testBit_two_pow]
      have : ¬ (n % 64 = j) := by omega
      simp [hj, this]
    · rw [if_neg hi, wd_testBit]
      simp [hj]
theorem wd_and (s t i : Nat) : wd (s &&& t) i = wd s i &&& wd t i := by
  apply Nat.eq_of_testBit_eq
  intro j
  rw [wd_testBit, Nat.testBit_and, Nat.testBit_and, wd_testBit, wd_testBit]
  cases decide (j < 64) <;> simp
/-- The set without n. -/
def clr (s n : Nat) : Nat := s ^^^ (s &&& 2 ^ n)
theorem clr_testBit (s n j : Nat) : (clr s n).testBit j = (s.testBit j && !decide (n = j)) := by
  unfold clr
  rw [Nat.testBit_xor, Nat.testBit_and, Nat.testBit_two_pow]
  cases s.testBit j <;> simp
theorem wd_clr (s n i : Nat) : wd (clr s n) i = if i = n / 64 then wd s i &&& (18446744073709551615 - 2 ^ (n % 64)) else wd s i := by
  apply Nat.eq_of_testBit_eq
  intro j
  have hn : n % 64 < 64 := Nat.mod_lt _ (by decide)
  rw [wd_testBit, clr_testBit]
  by_cases hi : i = n / 64
  · rw [if_pos hi, Nat.testBit_and, wd_testBit]
    have : (18446744073709551615 - 2 ^ (n % 64)) = 2 ^ 64 - (2 ^ (n % 64) + 1) := by rw [show (18446744073709551615 : Nat) = 2 ^ 64 - 1 by decide]; omega
    rw [this, Nat.testBit_two_pow_sub_succ (Nat.pow_lt_pow_right (by decide) hn), Nat.testBit_two_pow]
    by_cases hj : j < 64
    · have : (n = 64 * i + j) ↔ (n % 64 = j) := by omega
      simp [hj, this]
    · simp [hj]
  · rw [if_neg hi, wd_testBit]
    by_cases hj : j < 64
    · have : ¬ (n = 64 * i + j) := by omega
      simp [hj, this]
    · simp [hj]
def kBits : Nat := 1024
theorem kBits_eq : kBits = 1024 := rfl
attribute [irreducible] kBits
def big : Nat := 2 ^ kBits
theorem big_eq : big = 2 ^ kBits := rfl
attribute [irreducible] big
theorem testBit_big {s : Nat} (h : s < big) {j : Nat} (hj : 1024 ≤ j) : s.testBit j = false :=
  Nat.testBit_lt_two_pow (Nat.lt_of_lt_of_le (big_eq ▸ h) (Nat.pow_le_pow_right (by decide) (kBits_eq ▸ hj)))
theorem set_ext {s t : Nat} (hs : s < big) (ht : t < big) (h : ∀ i, i < 16 → wd s i = wd t i) : s = t := by
  apply Nat.eq_of_testBit_eq
  intro j
  by_cases hj : j < 1024
  · rw [testBit_wd s, testBit_wd t, h _ (by omega)]
  · rw [testBit_big hs (by omega), testBit_big ht (by omega)]
theorem setV_inj {s t : Nat} (hs : s < big) (ht : t < big) (h : setV s = setV t) : s = t := by
  refine set_ext hs ht fun i hi => ?_
  have h1 : setL s = setL t := by simpa [setV] using h
  have h2 := setL_get s i hi
  rw [h1, setL_get t i hi] at h2
  simp only [wv, Option.some.injEq, Value.int.injEq, true_and] at h2
  omega
theorem or_big {s n : Nat} (hs : s < big) (hn : n < 1024) : s ||| 2 ^ n < big := by
  rw [big_eq] at hs ⊢
  exact Nat.or_lt_two_pow hs (Nat.pow_lt_pow_right (by decide) (kBits_eq ▸ hn))
theorem and_big {s : Nat} (t : Nat) (hs : s < big) : s &&& t < big := Nat.lt_of_le_of_lt Nat.and_le_left hs
theorem clr_big {s : Nat} (n : Nat) (hs : s < big) : clr s n < big := by
  have h := and_big (2 ^ n) hs
  rw [big_eq] at hs h ⊢
  exact Nat.xor_lt_two_pow hs h
theorem has_word (s n : Nat) : (wd s (n / 64) &&& 2 ^ (n % 64) ≠ 0) ↔ s.testBit n = true := by
  rw [testBit_wd]
  have hb : (wd s (n / 64)).testBit (n % 64) = decide (wd s (n / 64) &&& 2 ^ (n % 64) ≠ 0) := by
    by_cases h : (wd s (n / 64)).testBit (n % 64) = true
    · rw [h]
      have : (wd s (n / 64) &&& 2 ^ (n % 64)).testBit (n % 64) = true := by rw [Nat.testBit_and, h, Nat.testBit_two_pow_self]; rfl
      symm
      rw [decide_eq_true_iff]
      intro e
      rw [e] at this
      simp at this
    · have h' : (wd s (n / 64)).testBit (n % 64) = false := by simpa using h
      rw [h']
      symm
      rw [decide_eq_false_iff_not, Decidable.not_not]
      apply Nat.eq_of_testBit_eq
      intro j
      rw [Nat.testBit_and, Nat.testBit_two_pow, Nat.zero_testBit]
      by_cases e : n % 64 = j
      · subst e; rw [h']; rfl
      · simp [e]
  rw [hb, decide_eq_true_iff]
def els (s : Nat) : List Int := ((List.range 1024).filter fun i => s.testBit i).map fun (i : Nat) => (i : Int)

/-! ### The lowest bit -/
def low (x : Nat) : Nat → Nat → Nat
  | 0, k => k
  | f + 1, k => if x.testBit k then k else low x f (k + 1)
theorem low_spec (x : Nat) : ∀ f k, (∃ j, k ≤ j ∧ j < k + f ∧ x.testBit j = true) → x.testBit (low x f k) = true ∧ k ≤ low x f k ∧ low x f k < k + f ∧ ∀ j, k ≤ j → j < low x f k → x.testBit j = false
  | 0, k, ⟨j, h1, h2, _⟩ => by omega
  | f + 1, k, ⟨j, h1, h2, h3⟩ => by
    unfold low
    split
    · rename_i h; exact ⟨h, by omega, by omega, fun j h1 h2 => by omega⟩
    · rename_i h
      have hne : j ≠ k := fun e => h (e ▸ h3)
      obtain ⟨g1, g2, g3, g4⟩ := low_spec x f (k + 1) ⟨j, by omega, by omega, h3⟩
      refine ⟨g1, by omega, by omega, fun j h1 h2 => ?_⟩
      by_cases e : j = k
      · subst e; simpa using h
      · exact g4 j (by omega) h2
theorem exists_bit {x m : Nat} (h : x ≠ 0) (hl : x < 2 ^ m) : ∃ j, j < m ∧ x.testBit j = true := by
  obtain ⟨j, hj⟩ := Nat.exists_testBit_of_ne_zero h
  refine ⟨j, ?_, hj⟩
  rcases Nat.lt_or_ge j m with h1 | h1
  · exact h1
  · rw [Nat.testBit_lt_two_pow (Nat.lt_of_lt_of_le hl (Nat.pow_le_pow_right (by decide) h1))] at hj; cases hj
theorem low_mod {x k : Nat} (h : ∀ j, j < k → x.testBit j = false) : x % 2 ^ k = 0 := by
  apply Nat.eq_of_testBit_eq
  intro j
  rw [Nat.testBit_mod_two_pow, Nat.zero_testBit]
  by_cases hj : j < k
  · simp [h j hj]
  · simp [hj]
theorem low_shape {x k : Nat} (h0 : x.testBit k = true) (h : ∀ j, j < k → x.testBit j = false) : ∃ q, x = 2 ^ k * (2 * q + 1) := by
  have h1 := low_mod h
  have h2 : x / 2 ^ k % 2 = 1 := by
    have := Nat.testBit_eq_decide_div_mod_eq (x := x) (i := k)
    rw [h0] at this
    simpa using this.symm
  refine ⟨x / 2 ^ k / 2, ?_⟩
  have h3 := Nat.div_add_mod x (2 ^ k)
  have h4 := Nat.div_add_mod (x / 2 ^ k) 2
  rw [h2] at h4
  rw [h1, Nat.add_zero] at h3
  rw [h4, h3]
theorem lowbit {x k : Nat} (hx : x < 18446744073709551616) (h0 : x.testBit k = true) (h : ∀ j, j < k → x.testBit j = false) : x &&& (18446744073709551616 - x) = 2 ^ k := by
  have hx0 : 0 < x := by
    rcases Nat.eq_zero_or_pos x with e | e
    · subst e; simp at h0
    · exact e
  have hk : k < 64 := by
    rcases Nat.lt_or_ge k 64 with h1 | h1
    · exact h1
    · rw [Nat.testBit_lt_two_pow (Nat.lt_of_lt_of_le hx (by rw [two64]; exact Nat.pow_le_pow_right (by decide) h1))] at h0; cases h0
  apply Nat.eq_of_testBit_eq
  intro j
  rw [Nat.testBit_and, Nat.testBit_two_pow]
  have hsub : 18446744073709551616 - x = 2 ^ 64 - ((x - 1) + 1) := by rw [two64]; omega
  rw [hsub, Nat.testBit_two_pow_sub_succ (by rw [← two64]; omega)]
  obtain ⟨q, hq⟩ := low_shape h0 h
  have hx1 : x - 1 = 2 ^ k * (2 * q) + (2 ^ k - 1) := by
    have := Nat.two_pow_pos k
    rw [hq, Nat.mul_add]; omega
  have hb1 : (x - 1).testBit j = if j < k then true else if j = k then false else x.testBit j := by
    rw [hx1, Nat.testBit_two_pow_mul_add _ (by have := Nat.two_pow_pos k; omega)]
    by_cases h1 : j < k
    · simp [h1, Nat.testBit_two_pow_sub_one]
    · by_cases h2 : j = k
      · subst h2; simp [Nat.testBit_zero]
      · simp only [h1, if_false, h2]
        rw [hq, Nat.mul_comm (2 ^ k) (2 * q + 1), Nat.testBit_mul_two_pow]
        obtain ⟨m, hm⟩ : ∃ m, j - k = m + 1 := ⟨j - k - 1, by omega⟩
        rw [hm, Nat.testBit_succ, Nat.testBit_succ]
        have e1 : 2 * q / 2 = q := by omega
        have e2 : (2 * q + 1) / 2 = q := by omega
        rw [e1, e2]
        simp; intro; omega
  rw [hb1]
  by_cases h1 : j < k
  · have : ¬ k = j := by omega
    simp [h1, h j h1, this]
  · by_cases h2 : j = k
    · subst h2; simp [h0, hk]
    · have : ¬ k = j := by omega
      simp only [h1, if_false, h2, this, decide_false]
      cases x.testBit j <;> simp
def bruijn : List Nat := [0, 1, 56, 2, 57, 49, 28, 3, 61, 58, 42, 50, 38, 29, 17, 4, 62, 47, 59, 36, 45, 43, 51, 22, 53, 39, 33, 30, 24, 18, 12, 5, 63, 55, 48, 27, 60, 41, 37, 16, 46, 35, 44, 21, 52, 32, 23, 11, 54, 26, 40, 15, 34, 20, 31, 10, 25, 14, 19, 9, 13, 8, 7, 6]
theorem bruijn_ok : ∀ k, k < 64 → bruijn[(2 ^ k * 285870213051353865 % 18446744073709551616) / 288230376151711744]? = some k := by decide +kernel
theorem bruijn_lt (k : Nat) : (2 ^ k * 285870213051353865 % 18446744073709551616) / 288230376151711744 < 64 := by
  have := Nat.mod_lt (2 ^ k * 285870213051353865) (show 0 < 18446744073709551616 by decide)
  omega
end Pal
