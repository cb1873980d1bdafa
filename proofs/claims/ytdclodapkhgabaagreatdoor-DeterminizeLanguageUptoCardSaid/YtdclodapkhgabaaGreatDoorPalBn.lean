/-
  Natural numbers as words below 2^32, the least word first. Own work. No statement of the seat is proved here.
-/
import Derived.Test.YtdclodapkhgabaaGreatDoorPalNa
namespace Pal
open Go
def valW : List Nat → Nat
  | [] => 0
  | w :: ws => w + 4294967296 * valW ws
def WordsOk (ws : List Nat) : Prop := ∀ w ∈ ws, w < 4294967296
def Canon (ws : List Nat) : Prop := WordsOk ws ∧ ws.getLast? ≠ some 0
theorem valW_append (xs ys : List Nat) : valW (xs ++ ys) = valW xs + 4294967296 ^ xs.length * valW ys := by
  induction xs with
  | nil => simp [valW]
  | cons x xs ih =>
    simp only [List.cons_append, valW, ih, List.length_cons, Nat.pow_succ]
    rw [Nat.mul_add, Nat.add_assoc, Nat.mul_comm (4294967296 ^ xs.length) 4294967296, Nat.mul_assoc]
theorem valW_snoc (xs : List Nat) (y : Nat) : valW (xs ++ [y]) = valW xs + 4294967296 ^ xs.length * y := by
  rw [valW_append]; simp [valW]
theorem valW_lt {ws : List Nat} (h : WordsOk ws) : valW ws < 4294967296 ^ ws.length := by
  induction ws with
  | nil => simp [valW]
  | cons w ws ih =>
    have h1 := h w List.mem_cons_self
    have h2 := ih fun x hx => h x (List.mem_cons_of_mem _ hx)
    simp only [valW, List.length_cons, Nat.pow_succ]
    omega
theorem valW_zeros (n : Nat) : valW (List.replicate n 0) = 0 := by
  induction n with
  | zero => rfl
  | succ n ih => simp [List.replicate_succ, valW, ih]
/-- Trailing zeros do not count. -/
theorem valW_take {ws : List Nat} {k : Nat} (hz : ∀ j (h : j < ws.length), k ≤ j → ws[j] = 0) : valW (ws.take k) = valW ws := by
  have e : ws = ws.take k ++ List.replicate (ws.length - k) 0 := by
    refine List.ext_getElem (by simp; omega) fun i h1 h2 => ?_
    by_cases hi : i < k
    · rw [List.getElem_append_left (by rw [List.length_take]; omega), List.getElem_take]
    · rw [List.getElem_append_right (by rw [List.length_take]; omega), List.getElem_replicate]
      exact hz i h1 (by omega)
  conv => rhs; rw [e]
  rw [valW_append, valW_zeros, Nat.mul_zero, Nat.add_zero]
theorem valW_pos {ws : List Nat} (h : ws ≠ []) (hl : ws.getLast? ≠ some 0) : 0 < valW ws := by
  obtain ⟨xs, y, rfl⟩ : ∃ xs y, ws = xs ++ [y] := ⟨ws.dropLast, ws.getLast h, (List.dropLast_concat_getLast h).symm⟩
  rw [valW_snoc]
  have hy : y ≠ 0 := by intro e; subst e; simp at hl
  have h1 : 0 < 4294967296 ^ xs.length := Nat.pow_pos (by decide)
  have := Nat.mul_pos h1 (Nat.pos_of_ne_zero hy)
  omega
theorem Canon.tail {w : Nat} {ws : List Nat} (h : Canon (w :: ws)) : Canon ws := by
  refine ⟨fun x hx => h.1 x (List.mem_cons_of_mem _ hx), ?_⟩
  cases ws with
  | nil => simp
  | cons x xs => have := h.2; rw [List.getLast?_cons_cons] at this; exact this
/-- A number has one form alone. -/
theorem Canon.uniq : ∀ {xs ys : List Nat}, Canon xs → Canon ys → valW xs = valW ys → xs = ys
  | [], [], _, _, _ => rfl
  | [], y :: ys, _, h2, h => by
    have := valW_pos (List.cons_ne_nil y ys) h2.2
    rw [← h] at this; simp [valW] at this
  | x :: xs, [], h1, _, h => by
    have := valW_pos (List.cons_ne_nil x xs) h1.2
    rw [h] at this; simp [valW] at this
  | x :: xs, y :: ys, h1, h2, h => by
    have a1 := h1.1 x List.mem_cons_self
    have a2 := h2.1 y List.mem_cons_self
    simp only [valW] at h
    have e1 : x = y := by omega
    have e2 : valW xs = valW ys := by omega
    rw [e1, Canon.uniq h1.tail h2.tail e2]
theorem Canon.take {ws : List Nat} (h : WordsOk ws) {k : Nat} (hk : k ≤ ws.length) (hl : k = 0 ∨ ∃ h : k - 1 < ws.length, ws[k - 1] ≠ 0) : Canon (ws.take k) := by
  refine ⟨fun x hx => h x (List.mem_of_mem_take hx), ?_⟩
  rcases hl with rfl | ⟨h1, h2⟩
  · simp
  · by_cases h0 : k = 0
    · subst h0; simp
    · rw [List.getLast?_eq_getElem?, List.length_take, Nat.min_eq_left hk, List.getElem?_take]
      rw [if_pos (by omega), List.getElem?_eq_getElem h1]
      simpa using h2
/-- The value of the first words; words that lack count as zero. -/
def valN (ws : List Nat) (i : Nat) : Nat := valW ((List.range i).map fun j => ws.getD j 0)
theorem valN_succ (ws : List Nat) (i : Nat) : valN ws (i + 1) = valN ws i + 4294967296 ^ i * ws.getD i 0 := by
  unfold valN
  rw [range_map_succ, valW_snoc]
  simp
theorem valN_all {ws : List Nat} {i : Nat} (h : ws.length ≤ i) : valN ws i = valW ws := by
  have e : (List.range i).map (fun j => ws.getD j 0) = ws ++ List.replicate (i - ws.length) 0 := by
    refine List.ext_getElem (by simp; omega) fun j h1 h2 => ?_
    by_cases hj : j < ws.length
    · rw [List.getElem_append_left hj]; simp [List.getD, hj]
    · rw [List.getElem_append_right (by omega)]; simp [List.getD, hj]
  unfold valN
  rw [e, valW_append, valW_zeros, Nat.mul_zero, Nat.add_zero]
theorem valW_set : ∀ {ws : List Nat} {j : Nat} (h : j < ws.length) (v : Nat), valW (ws.set j v) + 4294967296 ^ j * ws[j] = valW ws + 4294967296 ^ j * v
  | w :: ws, 0, _, v => by simp [valW]; omega
  | w :: ws, j + 1, h, v => by
    have ih := valW_set (ws := ws) (j := j) (by simpa using h) v
    simp only [List.set_cons_succ, valW, List.getElem_cons_succ, Nat.pow_succ]
    have e1 : ∀ z, 4294967296 ^ j * 4294967296 * z = 4294967296 * (4294967296 ^ j * z) := fun z => by rw [Nat.mul_comm (4294967296 ^ j) 4294967296, Nat.mul_assoc]
    rw [e1, e1]
    omega
/-- One step of a sum. -/
theorem add_step {x y c : Nat} (hx : x < 4294967296) (hy : y < 4294967296) (hc : c ≤ 1) : (x + y + c) / 4294967296 ≤ 1 ∧ (x + y + c) % 4294967296 < 4294967296 ∧ (x + y + c) % 4294967296 + 4294967296 * ((x + y + c) / 4294967296) = x + y + c := by omega
theorem mul_step {x y z c : Nat} (hx : x < 4294967296) (hy : y < 4294967296) (hz : z < 4294967296) (hc : c < 4294967296) : x * y + z + c < 18446744073709551616 ∧ (x * y + z + c) / 4294967296 < 4294967296 := by
  have h1 : x * y ≤ 4294967295 * 4294967295 := Nat.mul_le_mul (by omega) (by omega)
  omega
end Pal
