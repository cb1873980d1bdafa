/-
  Products of numbers by words. Own work. No statement of the seat is proved here.
-/
import Derived.Test.YtdclodapkhgabaaGreatPalBk
namespace Pal
open Go
structure MulI (xs ys os : List Nat) (i k c : Nat) : Prop where
  len : os.length = xs.length + ys.length
  ok : WordsOk os
  cl : c < 4294967296
  zer : ∀ j (h : j < os.length), i + ys.length ≤ j → os[j] = 0
  val : valW os + 4294967296 ^ (i + k) * c = valN xs i * valW ys + 4294967296 ^ i * (xs.getD i 0 * valN ys k)
theorem valN_zero (xs : List Nat) : valN xs 0 = 0 := rfl
theorem MulI.start (xs ys : List Nat) : MulI xs ys (List.replicate (xs.length + ys.length) 0) 0 0 0 :=
  ⟨by simp, fun w hw => by rw [List.mem_replicate] at hw; omega, by omega, fun j h _ => by simp, by rw [valW_zeros, valN_zero, valN_zero]; simp⟩
theorem MulI.step {xs ys os : List Nat} {i k c : Nat} (h : MulI xs ys os i k c) (hx : WordsOk xs) (hy : WordsOk ys) (hi : i < xs.length) (hk : k < ys.length) (hj : i + k < os.length) :
    xs[i] * ys[k] + os[i + k] + c < 18446744073709551616 ∧ MulI xs ys (os.set (i + k) ((xs[i] * ys[k] + os[i + k] + c) % 4294967296)) i (k + 1) ((xs[i] * ys[k] + os[i + k] + c) / 4294967296) := by
  have hx1 := hx _ (List.getElem_mem hi)
  have hy1 := hy _ (List.getElem_mem hk)
  have ho1 := h.ok _ (List.getElem_mem hj)
  obtain ⟨m1, m2⟩ := mul_step hx1 hy1 ho1 h.cl
  refine ⟨m1, by rw [List.length_set]; exact h.len, fun w hw => ?_, m2, fun j hj2 hij => ?_, ?_⟩
  · rcases List.mem_or_eq_of_mem_set hw with e | e
    · exact h.ok w e
    · rw [e]; exact Nat.mod_lt _ (by decide)
  · rw [List.getElem_set_ne (by omega)]; exact h.zer j (by simpa using hj2) hij
  · have hs := valW_set hj ((xs[i] * ys[k] + os[i + k] + c) % 4294967296)
    have hv := h.val
    have hyk : ys.getD k 0 = ys[k] := by simp [List.getD, hk]
    have hxi : xs.getD i 0 = xs[i] := by simp [List.getD, hi]
    rw [hxi] at hv ⊢
    rw [valN_succ, hyk]
    generalize xs[i] = x at *
    generalize ys[k] = y at *
    generalize hz : os[i + k] = z at *
    generalize hS : x * y + z + c = s at *
    have hdm := Nat.div_add_mod s 4294967296
    have e1 : 4294967296 ^ (i + k) * (4294967296 * (s / 4294967296)) + 4294967296 ^ (i + k) * (s % 4294967296) = 4294967296 ^ (i + k) * (x * y) + 4294967296 ^ (i + k) * z + 4294967296 ^ (i + k) * c := by
      rw [← Nat.mul_add, hdm, ← hS, Nat.mul_add, Nat.mul_add]
    have e2 : 4294967296 ^ (i + (k + 1)) * (s / 4294967296) = 4294967296 ^ (i + k) * (4294967296 * (s / 4294967296)) := by
      rw [← Nat.add_assoc, Nat.pow_succ, Nat.mul_assoc]
    have e3 : 4294967296 ^ i * (x * (valN ys k + 4294967296 ^ k * y)) = 4294967296 ^ i * (x * valN ys k) + 4294967296 ^ (i + k) * (x * y) := by
      rw [Nat.mul_add, Nat.mul_add, Nat.pow_add]
      congr 1
      rw [← Nat.mul_assoc x, Nat.mul_comm x, Nat.mul_assoc, Nat.mul_assoc]
    rw [e2, e3]
    omega
theorem MulI.next {xs ys os : List Nat} {i c : Nat} (h : MulI xs ys os i ys.length c) (hi : i < xs.length) : MulI xs ys (os.set (i + ys.length) c) (i + 1) 0 0 := by
  have hj : i + ys.length < os.length := by rw [h.len]; omega
  refine ⟨by rw [List.length_set]; exact h.len, fun w hw => ?_, by omega, fun j hj2 hij => ?_, ?_⟩
  · rcases List.mem_or_eq_of_mem_set hw with e | e
    · exact h.ok w e
    · rw [e]; exact h.cl
  · rw [List.getElem_set_ne (by omega)]; exact h.zer j (by simpa using hj2) (by omega)
  · have hs := valW_set hj c
    rw [h.zer _ hj (Nat.le_refl _), Nat.mul_zero, Nat.add_zero] at hs
    have hv := h.val
    rw [valN_all (Nat.le_refl _)] at hv
    rw [hs, valN_succ, valN_zero, Nat.mul_zero, Nat.mul_zero, Nat.mul_zero, Nat.add_mul, hv, Nat.mul_assoc]
theorem MulI.done {xs ys os : List Nat} {c : Nat} (h : MulI xs ys os xs.length 0 c) (hc : c = 0) : valW os = valW xs * valW ys := by
  subst hc
  have hv := h.val
  rw [valN_all (Nat.le_refl _), valN_zero] at hv
  omega
theorem words_put {os : List Nat} {j off v : Nat} (hj : j < os.length) (ho : off = j) : putCells (words os).toArray off (Value.int .u32 (v : Int)).cells.toList = (words (os.set j v)).toArray := by
  subst ho
  rw [show (Value.int .u32 (v : Int)).cells.toList = [Value.int .u32 (v : Int)] from rfl, putCells_one (by simpa [words] using hj)]
  simp [words, List.map_set]
theorem words_made (n : Nat) : madeCells #[.int .u32 0] (n * 1) = (words (List.replicate n 0)).toArray := by
  apply Array.ext'
  simp [madeCells, words, Nat.mod_one, List.map_const']
/-- A number below a power of the base has that many words. -/
theorem canon_len {ws : List Nat} {L : Nat} (h : Canon ws) (hv : valW ws < 4294967296 ^ L) : ws.length ≤ L := by
  rcases Nat.lt_or_ge L ws.length with h1 | h1
  · exfalso
    have hne : ws ≠ [] := by intro e; subst e; simp at h1
    obtain ⟨us, y, rfl⟩ : ∃ us y, ws = us ++ [y] := ⟨ws.dropLast, ws.getLast hne, (List.dropLast_concat_getLast hne).symm⟩
    have hy0 : y ≠ 0 := by intro e; subst e; exact h.2 (by simp)
    rw [valW_snoc] at hv
    have h2 : 4294967296 ^ L ≤ 4294967296 ^ us.length := Nat.pow_le_pow_right (by decide) (by simp at h1; omega)
    have h3 : 4294967296 ^ us.length * 1 ≤ 4294967296 ^ us.length * y := Nat.mul_le_mul_left _ (by omega)
    omega
  · exact h1
def kWords : Nat := 1048576
theorem kWords_eq : kWords = 1048576 := rfl
attribute [irreducible] kWords
def bigN : Nat := 4294967296 ^ kWords
theorem bigN_eq : bigN = 4294967296 ^ kWords := rfl
attribute [irreducible] bigN
theorem RepN.words {H : View} {v : Value} {n : Nat} (h : RepN H v n) (hn : n < bigN) : ∃ ws, UW H v ws ∧ valW ws = n ∧ ws.length ≤ 1048576 := by
  obtain ⟨ws, h1, h2, h3⟩ := h
  exact ⟨ws, h3, h2, kWords_eq ▸ canon_len h1 (by rw [h2, ← bigN_eq]; exact hn)⟩
end Pal
