/-
  The program's subset construction is the reference's: plain law, no program in sight. Own work. No statement of the seat is proved here.
-/
import Derived.Test.YtdclodapkhgabaaGreatDoorPalX
namespace Pal
open Go
/-! ### Sets as numbers, sets as lists -/
theorem els_subL (s : Nat) : els s = subL 1024 (fun i => s.testBit i) := rfl
theorem mem_els {s : Nat} {x : Int} : x ∈ els s ↔ (0 ≤ x ∧ x < 1024) ∧ s.testBit x.toNat = true := by
  constructor
  · intro h
    obtain ⟨k, rfl, h1, h2⟩ := els_mem h
    exact ⟨by omega, by simpa using h2⟩
  · rintro ⟨h1, h2⟩
    have : x = ((x.toNat : Nat) : Int) := by omega
    rw [this, els_subL, mem_subL]
    exact ⟨by omega, h2⟩
theorem hasB_mem (s : Nat) (x : Int) : hasB s x = decide (x ∈ els s) := by
  rw [Bool.eq_iff_iff]
  simp only [hasB, Bool.and_eq_true, decide_eq_true_eq, mem_els]
theorem subL_ext {n m : Nat} {p q : Nat → Bool} (hnm : n ≤ m) (h1 : ∀ j, j < n → q j = p j) (h2 : ∀ j, n ≤ j → j < m → q j = false) : subL m q = subL n p := by
  obtain ⟨d, rfl⟩ : ∃ d, m = n + d := ⟨m - n, by omega⟩
  clear hnm
  induction d with
  | zero => exact subL_congr h1
  | succ d ih =>
    have hq := h2 (n + d) (by omega) (by omega)
    have : subL (n + (d + 1)) q = subL (n + d) q := by
      rw [show n + (d + 1) = n + d + 1 by omega]
      simp [subL, List.range_succ, hq]
    rw [this]
    exact ih fun j hj hjm => h2 j hj (by omega)
theorem els_inj {s t : Nat} (hs : s < big) (ht : t < big) (h : els s = els t) : s = t := by
  apply Nat.eq_of_testBit_eq
  intro j
  by_cases hj : j < 1024
  · have h1 : ((j : Int) ∈ els s ↔ (j : Int) ∈ els t) := by rw [h]
    rw [mem_els, mem_els] at h1
    have h2 : (0 ≤ (j : Int) ∧ (j : Int) < 1024) := by omega
    simp only [h2, true_and, Int.toNat_natCast] at h1
    cases hb1 : s.testBit j <;> cases hb2 : t.testBit j <;> simp_all
  · rw [testBit_big hs (by omega), testBit_big ht (by omega)]
theorem wth_testBit (s : Nat) (i : Int) (j : Nat) : (wth s i).testBit j = (s.testBit j || decide ((0 ≤ i ∧ i < 1024) ∧ i = (j : Int))) := by
  unfold wth
  by_cases h : 0 ≤ i ∧ i < 1024
  · rw [if_pos h, Nat.testBit_or, Nat.testBit_two_pow]
    congr 1
    simp only [decide_eq_decide]
    omega
  · rw [if_neg h]
    simp [h]
theorem ofL_testBit (xs : List Int) (j : Nat) : (ofL xs).testBit j = decide (j < 1024 ∧ (j : Int) ∈ xs) := by
  have key : ∀ (xs : List Int) (s : Nat), (xs.foldl wth s).testBit j = (s.testBit j || decide (j < 1024 ∧ (j : Int) ∈ xs)) := by
    intro xs
    induction xs with
    | nil => intro s; simp
    | cons x r ih =>
      intro s
      rw [List.foldl_cons, ih, wth_testBit, Bool.or_assoc]
      congr 1
      rw [Bool.eq_iff_iff]
      simp only [Bool.or_eq_true, decide_eq_true_eq, List.mem_cons]
      constructor
      · rintro (⟨h1, h2⟩ | ⟨h1, h2⟩)
        · exact ⟨by omega, .inl h2.symm⟩
        · exact ⟨h1, .inr h2⟩
      · rintro ⟨h1, h2 | h2⟩
        · exact .inl ⟨by omega, h2.symm⟩
        · exact .inr ⟨h1, h2⟩
  unfold ofL
  rw [key xs 0]
  simp
/-! ### The successor -/
theorem fitsTo_iff {subs : List Nat} {args fr : List Int} : ∀ {k : Nat}, fitsTo subs args fr k = true ↔ ∀ i, i < k → fr.getD i 0 ∈ els (subs.getD (args.getD i 0).toNat 0)
  | 0 => by simp [fitsTo]
  | k + 1 => by
    simp only [fitsTo, Bool.and_eq_true, fitsTo_iff (k := k), hasB_mem, decide_eq_true_eq]
    constructor
    · rintro ⟨h1, h2⟩ i hi
      by_cases e : i = k
      · subst e; exact h2
      · exact h1 i (by omega)
    · intro h; exact ⟨fun i hi => h i (by omega), h k (by omega)⟩
theorem succTo_testBit {subs : List Nat} {args : List Int} {rs : List Rl} {j : Nat} : ∀ {k : Nat}, k ≤ rs.length → ((succTo subs args rs k).testBit j = true ↔ ∃ r ∈ rs.take k, fitsTo subs args r.args r.args.length = true ∧ (0 ≤ r.to ∧ r.to < 1024) ∧ r.to = (j : Int))
  | 0, _ => by simp [succTo]
  | k + 1, hk => by
    have hk' : k < rs.length := by omega
    have ih := succTo_testBit (subs := subs) (args := args) (rs := rs) (j := j) (k := k) (by omega)
    rw [List.take_succ_eq_append_getElem hk']
    cases hf : fitsTo subs args rs[k].args rs[k].args.length with
    | true =>
      rw [succTo_yes hk' hf, wth_testBit, Bool.or_eq_true, ih, decide_eq_true_eq]
      constructor
      · rintro (⟨r, hr, h⟩ | h)
        · exact ⟨r, List.mem_append_left _ hr, h⟩
        · exact ⟨rs[k], List.mem_append_right _ (by simp), hf, h⟩
      · rintro ⟨r, hr, h⟩
        rcases List.mem_append.1 hr with hr | hr
        · exact .inl ⟨r, hr, h⟩
        · simp at hr; subst hr; exact .inr h.2
    | false =>
      rw [succTo_no hk' hf, ih]
      constructor
      · rintro ⟨r, hr, h⟩; exact ⟨r, List.mem_append_left _ hr, h⟩
      · rintro ⟨r, hr, h⟩
        rcases List.mem_append.1 hr with hr | hr
        · exact ⟨r, hr, h⟩
        · simp at hr; subst hr; rw [hf] at h; cases h.1
theorem getD_els (subs : List Nat) (i : Nat) : (subs.map els).getD i [] = els (subs.getD i 0) := by
  simp only [List.getD_eq_getElem?_getD, List.getElem?_map]
  cases subs[i]? with
  | none => rw [Option.map_none, Option.getD_none, Option.getD_none, els_zero]
  | some s => rw [Option.map_some, Option.getD_some, Option.getD_some]
theorem getD_ofM (l : List (List Int)) (args : List Int) {k : Nat} (hk : k < args.length) : (ofM l args).getD k [] = l.getD (args.getD k 0).toNat [] := by
  simp [ofM, List.getD_eq_getElem?_getD, List.getElem?_map, List.getElem?_eq_getElem hk]
theorem fitR_iff {subs : List Nat} {args : List Int} {sym j : Int} {r : Rl} (hl : r.sym = sym → r.args.length = args.length) :
    fitR sym j (ofM (subs.map els) args) r = true ↔ r.sym = sym ∧ r.to = j ∧ fitsTo subs args r.args r.args.length = true := by
  unfold fitR
  rw [Bool.and_eq_true, decide_eq_true_eq, and_assoc]
  refine and_congr_right fun hs => and_congr_right fun _ => ?_
  rw [fitsTo_iff, hl hs]
  have hlen : (ofM (subs.map els) args).length = args.length := by simp [ofM]
  rw [hlen]
  simp only [hasAll, List.all_eq_true, List.mem_range, decide_eq_true_eq]
  constructor
  · intro h i hi
    have := h i hi
    rwa [getD_ofM _ _ hi, getD_els] at this
  · intro h i hi
    rw [getD_ofM _ _ hi, getD_els]
    exact h i hi
/-- The lengths fit: every rule of the symbol takes as many operands as args has. -/
theorem els_succ {a : Au} (haok : AuOk a) {subs : List Nat} {args : List Int} {sym : Int} (hl : ∀ r ∈ a.rules, r.sym = sym → r.args.length = args.length) :
    els (succM a subs sym args) = refNext a sym (ofM (subs.map els) args) := by
  have hst := haok.st
  rw [els_subL, refNext_sub]
  have hbit : ∀ j : Nat, (succM a subs sym args).testBit j = true ↔ ∃ r ∈ a.rules, r.sym = sym ∧ fitsTo subs args r.args r.args.length = true ∧ (0 ≤ r.to ∧ r.to < 1024) ∧ r.to = (j : Int) := by
    intro j
    unfold succM
    rw [succTo_testBit (Nat.le_refl _), List.take_length]
    constructor
    · rintro ⟨r, hr, h⟩
      obtain ⟨h1, h2⟩ := rulesOf_mem hr
      exact ⟨r, h1, h2, h⟩
    · rintro ⟨r, hr, hs, h⟩
      exact ⟨r, by simp [rulesOf, hr, hs], h⟩
  refine subL_ext (n := a.states.toNat) (m := 1024) (p := fun s => a.rules.any (fitR sym (s : Int) (ofM (subs.map els) args))) (q := fun i => (succM a subs sym args).testBit i) (by omega) ?_ ?_
  · intro j hj
    rw [Bool.eq_iff_iff, hbit, List.any_eq_true]
    constructor
    · rintro ⟨r, hr, hs, hf, _, ht⟩
      exact ⟨r, hr, (fitR_iff (hl r hr)).2 ⟨hs, ht, hf⟩⟩
    · rintro ⟨r, hr, h⟩
      obtain ⟨hs, ht, hf⟩ := (fitR_iff (hl r hr)).1 h
      exact ⟨r, hr, hs, hf, by omega, ht⟩
  · intro j hj1 hj2
    rw [Bool.eq_false_iff]
    intro h
    obtain ⟨r, hr, _, _, _, ht⟩ := (hbit j).1 h
    have := (haok.ru r hr).2.2.2.2.2
    omega
theorem succTo_congr {subs subs' : List Nat} {args : List Int} (h : ∀ i, subs'.getD (args.getD i 0).toNat 0 = subs.getD (args.getD i 0).toNat 0) (rs : List Rl) : ∀ k, succTo subs' args rs k = succTo subs args rs k
  | 0 => rfl
  | k + 1 => by
    have hf : ∀ (fr : List Int) m, fitsTo subs' args fr m = fitsTo subs args fr m := by
      intro fr m
      induction m with
      | zero => rfl
      | succ m ih => simp only [fitsTo, ih, h]
    simp only [succTo, hf, succTo_congr h rs k]
end Pal
