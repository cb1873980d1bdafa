/-
  Plain lemmas on the reference's subset construction: how many subsets there are, steps and rounds. Own work. No statement of the seat is proved here.
-/
import Derived.Test.YtdclodapkhgabaaGreatDoorPalQ
namespace Pal
open Go
/-- Pigeonhole. -/
theorem nodup_le : ∀ {n : Nat} {l : List Nat}, l.Nodup → (∀ x ∈ l, x < n) → l.length ≤ n
  | 0, l, _, h => by cases l with
    | nil => simp
    | cons a r => exact absurd (h a (by simp)) (by omega)
  | n + 1, l, hn, h => by
    by_cases hm : n ∈ l
    · have h1 := nodup_le (n := n) (l := l.erase n) (hn.erase n) (fun x hx => by
        have h2 := h x (List.mem_of_mem_erase hx)
        have h3 : x ≠ n := fun e => by subst e; exact (List.Nodup.not_mem_erase hn) hx
        omega)
      rw [List.length_erase_of_mem hm] at h1
      omega
    · have := nodup_le (n := n) hn (fun x hx => by
        have h2 := h x hx
        have h3 : x ≠ n := fun e => hm (e ▸ hx)
        omega)
      omega
def subL (m : Nat) (p : Nat → Bool) : List Int := ((List.range m).filter p).map fun (s : Nat) => (s : Int)
def codeL (m : Nat) (xs : List Int) : Nat := (List.range m).foldl (fun acc (s : Nat) => 2 * acc + (if (s : Int) ∈ xs then 1 else 0)) 0
theorem codeL_lt (m : Nat) (xs : List Int) : codeL m xs < 2 ^ m := by
  unfold codeL
  induction m with
  | zero => simp
  | succ m ih =>
    rw [List.range_succ, List.foldl_append, List.foldl_cons, List.foldl_nil, Nat.pow_succ]
    split <;> omega
theorem codeL_inj {m : Nat} {xs ys : List Int} (h : codeL m xs = codeL m ys) : ∀ s, s < m → ((s : Int) ∈ xs ↔ (s : Int) ∈ ys) := by
  unfold codeL at h
  induction m with
  | zero => intro s hs; omega
  | succ m ih =>
    rw [List.range_succ, List.foldl_append, List.foldl_append, List.foldl_cons, List.foldl_nil, List.foldl_cons, List.foldl_nil] at h
    intro s hs
    by_cases e : s = m
    · subst e
      by_cases h1 : (s : Int) ∈ xs <;> by_cases h2 : (s : Int) ∈ ys <;> simp [h1, h2] at h ⊢ <;> omega
    · refine ih ?_ s (by omega)
      split at h <;> split at h <;> omega
theorem mem_subL {m : Nat} {p : Nat → Bool} {s : Nat} : (s : Int) ∈ subL m p ↔ s < m ∧ p s = true := by
  simp only [subL, List.mem_map, List.mem_filter, List.mem_range]
  constructor
  · rintro ⟨t, ⟨h1, h2⟩, h3⟩
    have : t = s := by omega
    subst this; exact ⟨h1, h2⟩
  · rintro ⟨h1, h2⟩; exact ⟨s, ⟨h1, h2⟩, rfl⟩
theorem subL_congr {m : Nat} {p q : Nat → Bool} (h : ∀ s, s < m → p s = q s) : subL m p = subL m q := by
  unfold subL
  congr 1
  exact List.filter_congr fun s hs => h s (List.mem_range.1 hs)
theorem subL_code {m : Nat} {p q : Nat → Bool} (h : codeL m (subL m p) = codeL m (subL m q)) : subL m p = subL m q := by
  refine subL_congr fun s hs => ?_
  have := codeL_inj h s hs
  rw [mem_subL, mem_subL] at this
  simp only [hs, true_and] at this
  cases h1 : p s <;> cases h2 : q s <;> simp_all
structure RefOk (a : Au) (out : List (List Int)) : Prop where
  nd : out.Nodup
  sub : ∀ x ∈ out, ∃ p, x = subL a.states.toNat p
theorem RefOk.len {a : Au} {out : List (List Int)} (h : RefOk a out) (ha : a.states ≤ 6) : out.length ≤ 64 := by
  have h1 : (out.map (codeL a.states.toNat)).Nodup := by
    refine List.Pairwise.map _ (fun x y hxy => ?_) (List.Pairwise.and_mem.1 h.nd)
    intro e
    obtain ⟨p, rfl⟩ := h.sub x hxy.1
    obtain ⟨q, rfl⟩ := h.sub y hxy.2.1
    exact hxy.2.2 (subL_code e)
  have h2 := nodup_le (n := 64) h1 (fun x hx => by
    obtain ⟨y, _, rfl⟩ := List.mem_map.1 hx
    have := codeL_lt a.states.toNat y
    have h3 : 2 ^ a.states.toNat ≤ 2 ^ 6 := Nat.pow_le_pow_right (by decide) (by omega)
    omega)
  simpa using h2
theorem subL_len (m : Nat) (p : Nat → Bool) : (subL m p).length ≤ m := by
  unfold subL
  rw [List.length_map]
  exact Nat.le_trans (List.length_filter_le _ _) (by simp)
theorem RefOk.item {a : Au} {out : List (List Int)} (h : RefOk a out) (ha : a.states ≤ 256) : ∀ x ∈ out, x.length ≤ 1048576 := by
  intro x hx
  obtain ⟨p, rfl⟩ := h.sub x hx
  have := subL_len a.states.toNat p
  omega
theorem RefOk.nil (a : Au) : RefOk a [] := ⟨.nil, by simp⟩
theorem refNext_sub (a : Au) (sym : Int) (l : List (List Int)) : refNext a sym l = subL a.states.toNat fun s => a.rules.any (fitR sym (s : Int) l) := rfl
theorem RefOk.snoc {a : Au} {out : List (List Int)} (h : RefOk a out) {sym : Int} {l : List (List Int)} (hn : ¬ refNext a sym l ∈ out) : RefOk a (out ++ [refNext a sym l]) := by
  refine ⟨?_, ?_⟩
  · rw [List.nodup_append]
    refine ⟨h.nd, by simp, ?_⟩
    intro x hx y hy e
    simp at hy; subst hy; subst e; exact hn hx
  · intro x hx
    rcases List.mem_append.1 hx with hx | hx
    · exact h.sub x hx
    · simp at hx; subst hx; exact ⟨_, rfl⟩
def nextTo (a : Au) (sym : Int) (l : List (List Int)) (s : Nat) : List Int := subL s fun s => a.rules.any (fitR sym (s : Int) l)
theorem nextTo_yes {a : Au} {sym : Int} {l : List (List Int)} {s : Nat} (h : a.rules.any (fitR sym (s : Int) l) = true) : nextTo a sym l (s + 1) = nextTo a sym l s ++ [(s : Int)] := by
  simp [nextTo, subL, List.range_succ, h]
theorem nextTo_no {a : Au} {sym : Int} {l : List (List Int)} {s : Nat} (h : a.rules.any (fitR sym (s : Int) l) = false) : nextTo a sym l (s + 1) = nextTo a sym l s := by
  simp [nextTo, subL, List.range_succ, h]
theorem any_succ {α : Type} {f : α → Bool} {xs : List α} {k : Nat} (hk : k < xs.length) : (xs.take (k + 1)).any f = ((xs.take k).any f || f xs[k]) := by
  rw [List.take_succ_eq_append_getElem hk, List.any_append]; simp only [List.any_cons, List.any_nil, Bool.or_false]
theorem all_succ {α : Type} {f : α → Bool} {xs : List α} {k : Nat} (hk : k < xs.length) : (xs.take (k + 1)).all f = ((xs.take k).all f && f xs[k]) := by
  rw [List.take_succ_eq_append_getElem hk, List.all_append]; simp only [List.all_cons, List.all_nil, Bool.and_true]
theorem refSteps_cons {a : Au} {sym : Int} {xss : List (List Int)} {out : List (List Int)} {i : Nat} (hi : i < xss.length) : refSteps a sym (xss.drop i) out = refSteps a sym (xss.drop (i + 1)) (refStep a sym out xss[i]) := by
  rw [List.drop_eq_getElem_cons hi]; rfl
theorem refFind_neg {l : List (List Int)} {s : List Int} : refFind l s < 0 ↔ ¬ s ∈ l := by
  unfold refFind
  by_cases h : s ∈ l
  · rw [if_pos h]; simp only [h, not_true_eq_false, iff_false]; omega
  · rw [if_neg h]; simp [h]
theorem refStep_len (a : Au) (sym : Int) (out : List (List Int)) (xs : List Int) : out.length ≤ (refStep a sym out xs).length := by
  unfold refStep; split <;> simp
section
variable {P : Program} {n : Nat} {c : Cx} {Q : Exit → Act → World → Prop} {l : KL} {hl : HL} {H : View}
theorem KC_pubrow {v : Value} {e : TypeId} {sz k : Nat} {xs : List Value} {code : Code} (hnew : c.pass = []) (h : ∀ H', VLe H H' → rowAt H' v k xs → KC P n c code Q l hl H') : KC P n c code Q l (row v e sz k xs :: hl) H := by
  intro ρ w hm ho
  obtain ⟨H', h1, h2, h3⟩ := ho.pubrow (fun b _ hb => by rw [hnew] at hb; cases hb)
  exact h H' h1 h2 ρ w hm h3
end
theorem take_ints_snoc {α : Type} {f : α → Int} {xs : List α} {k : Nat} (hk : k < xs.length) : ints ((xs.take (k + 1)).map f) = ints ((xs.take k).map f) ++ [.int .i64 (f xs[k])] := by
  rw [take_map_succ hk, ints_snoc]
theorem take_bools_snoc {α : Type} {f : α → Bool} {xs : List α} {k : Nat} (hk : k < xs.length) : bools ((xs.take (k + 1)).map f) = bools ((xs.take k).map f) ++ [.bool (f xs[k])] := by
  rw [take_map_succ hk, bools_snoc]
theorem refFind_ok {l : List (List Int)} {s : List Int} (h : l.length ≤ 1048576) : i64ok (refFind l s) := by
  unfold refFind i64ok
  split
  · have := List.idxOf_le_length (a := s) (l := l); omega
  · omega
theorem ints_len (xs : List Int) : (ints xs).length = xs.length := by simp [ints]
theorem bools_len (xs : List Bool) : (bools xs).length = xs.length := by simp [bools]
theorem SB.shape {H : View} {v : Value} {xs : List Bool} (h : SB H v xs) : ∃ a cap, v = .slice a xs.length cap := by
  obtain ⟨a, cap, h, _⟩ := h; exact ⟨a, cap, h⟩
theorem SB.mono {H H' : View} {v : Value} {xs : List Bool} (h : SB H v xs) (hle : VLe H H') : SB H' v xs := SlAt.mono h hle
end Pal
