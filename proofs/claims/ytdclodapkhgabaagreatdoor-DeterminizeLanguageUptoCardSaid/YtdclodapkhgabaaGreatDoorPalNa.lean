/-
  Nondeterministic automata as plain data: runs, their number, the least one. Own work. No statement of the seat is proved here.
-/
import Derived.Test.YtdclodapkhgabaaGreatDoorPalMa
namespace Pal
open Go
/-! ### The order of slices -/
theorem cmpL_vals : ∀ xs ys : List Int, cmpL xs ys = -1 ∨ cmpL xs ys = 0 ∨ cmpL xs ys = 1
  | [], [] => by simp [cmpL]
  | [], _ :: _ => by simp [cmpL]
  | _ :: _, [] => by simp [cmpL]
  | x :: xs, y :: ys => by
    simp only [cmpL]
    split
    · simp
    · split
      · simp
      · exact cmpL_vals xs ys
theorem cmpL_swap : ∀ xs ys : List Int, cmpL ys xs = - cmpL xs ys
  | [], [] => by simp [cmpL]
  | [], _ :: _ => by simp [cmpL]
  | _ :: _, [] => by simp [cmpL]
  | x :: xs, y :: ys => by
    simp only [cmpL]
    by_cases h1 : x < y
    · rw [if_pos h1, if_neg (by omega), if_pos h1]; rfl
    · by_cases h2 : y < x
      · rw [if_pos h2, if_neg h1, if_pos h2]
      · rw [if_neg h1, if_neg h2, if_neg h2, if_neg h1]
        exact cmpL_swap xs ys
theorem cmpL_trans : ∀ {xs ys zs : List Int}, cmpL xs ys < 0 → cmpL ys zs < 0 → cmpL xs zs < 0
  | [], [], zs, h, _ => by simp [cmpL] at h
  | [], y :: ys, [], _, h => by simp [cmpL] at h
  | [], y :: ys, z :: zs, _, _ => by simp [cmpL]
  | x :: xs, [], zs, h, _ => by simp [cmpL] at h
  | x :: xs, y :: ys, [], _, h => by simp [cmpL] at h
  | x :: xs, y :: ys, z :: zs, h1, h2 => by
    simp only [cmpL] at h1 h2 ⊢
    by_cases a1 : x < y
    · by_cases b1 : y < z
      · rw [if_pos (by omega)]; decide
      · rw [if_neg b1] at h2
        by_cases b2 : z < y
        · rw [if_pos b2] at h2; omega
        · rw [if_pos (by omega)]; decide
    · rw [if_neg a1] at h1
      by_cases a2 : y < x
      · rw [if_pos a2] at h1; omega
      · rw [if_neg a2] at h1
        have hxy : x = y := by omega
        subst hxy
        by_cases b1 : x < z
        · rw [if_pos b1]; decide
        · rw [if_neg b1] at h2 ⊢
          by_cases b2 : z < x
          · rw [if_pos b2] at h2; omega
          · rw [if_neg b2] at h2 ⊢
            exact cmpL_trans h1 h2
theorem cmpL_le_trans {xs ys zs : List Int} (h1 : cmpL xs ys ≤ 0) (h2 : cmpL ys zs ≤ 0) : cmpL xs zs ≤ 0 := by
  by_cases e1 : cmpL xs ys = 0
  · rw [cmpL_eq.1 e1]; exact h2
  · by_cases e2 : cmpL ys zs = 0
    · rw [← cmpL_eq.1 e2]; exact h1
    · have := cmpL_trans (show cmpL xs ys < 0 by omega) (show cmpL ys zs < 0 by omega); omega
theorem cmpL_append_self : ∀ (xs us vs : List Int), cmpL (xs ++ us) (xs ++ vs) = cmpL us vs
  | [], us, vs => rfl
  | x :: xs, us, vs => by
    have h : cmpL (x :: (xs ++ us)) (x :: (xs ++ vs)) = cmpL (xs ++ us) (xs ++ vs) := by simp [cmpL]
    rw [List.cons_append, List.cons_append, h]
    exact cmpL_append_self xs us vs
theorem cmpL_append_lt : ∀ {xs ys : List Int} (us vs : List Int), xs.length = ys.length → cmpL xs ys < 0 → cmpL (xs ++ us) (ys ++ vs) < 0
  | [], [], us, vs, _, h => by simp [cmpL] at h
  | x :: xs, y :: ys, us, vs, h, h2 => by
    simp only [List.cons_append, cmpL] at h2 ⊢
    by_cases a1 : x < y
    · rw [if_pos a1]; decide
    · rw [if_neg a1] at h2 ⊢
      by_cases a2 : y < x
      · rw [if_pos a2] at h2; omega
      · rw [if_neg a2] at h2 ⊢
        exact cmpL_append_lt us vs (by simpa using h) h2
theorem cmpL_append_le {xs ys us vs : List Int} (h : xs.length = ys.length) (h1 : cmpL xs ys ≤ 0) (h2 : cmpL us vs ≤ 0) : cmpL (xs ++ us) (ys ++ vs) ≤ 0 := by
  by_cases e : cmpL xs ys = 0
  · rw [cmpL_eq.1 e, cmpL_append_self]; exact h2
  · have := cmpL_append_lt us vs h (by omega); omega
/-- The least of a list of slices. -/
def IsLeast (m : List Int) (l : List (List Int)) : Prop := m ∈ l ∧ ∀ x ∈ l, cmpL m x ≤ 0
theorem IsLeast.uniq {m m' : List Int} {l : List (List Int)} (h : IsLeast m l) (h' : IsLeast m' l) : m = m' := by
  have h1 := h.2 _ h'.1
  have h2 := h'.2 _ h.1
  rw [cmpL_swap] at h2
  exact cmpL_eq.1 (by omega)
/-- What a search keeps that takes each one that is less. -/
def bestO (o : Option (List Int)) (x : List Int) : Option (List Int) := match o with
  | none => some x
  | some b => if cmpL x b < 0 then some x else some b
theorem best_some {l : List (List Int)} {b : List Int} : ∃ m, l.foldl bestO (some b) = some m ∧ IsLeast m (b :: l) := by
  induction l generalizing b with
  | nil => exact ⟨b, rfl, by simp [IsLeast, cmpL_self]⟩
  | cons x l ih =>
    simp only [List.foldl_cons, bestO]
    split
    · rename_i h
      obtain ⟨m, h1, h2, h3⟩ := ih (b := x)
      refine ⟨m, h1, List.mem_cons_of_mem _ h2, fun y hy => ?_⟩
      rcases List.mem_cons.1 hy with rfl | hy
      · have := h3 x List.mem_cons_self
        exact cmpL_le_trans this (by omega)
      · exact h3 y hy
    · rename_i h
      obtain ⟨m, h1, h2, h3⟩ := ih (b := b)
      refine ⟨m, h1, ?_, fun y hy => ?_⟩
      · rcases List.mem_cons.1 h2 with rfl | h2
        · exact List.mem_cons_self
        · exact List.mem_cons_of_mem _ (List.mem_cons_of_mem _ h2)
      · rcases List.mem_cons.1 hy with rfl | hy
        · exact h3 _ List.mem_cons_self
        · rcases List.mem_cons.1 hy with rfl | hy
          · have h4 := h3 b List.mem_cons_self
            have h5 : cmpL b y ≤ 0 := by rw [cmpL_swap]; omega
            exact cmpL_le_trans h4 h5
          · exact h3 y (List.mem_cons_of_mem _ hy)
theorem best_none {l : List (List Int)} : (l = [] ∧ l.foldl bestO none = none) ∨ ∃ m, l.foldl bestO none = some m ∧ IsLeast m l := by
  cases l with
  | nil => exact .inl ⟨rfl, rfl⟩
  | cons x l => exact .inr (best_some (l := l) (b := x))
/-! ### Runs -/
def lastI (r : List Int) : Int := r.getLast?.getD 0
theorem lastI_snoc (r : List Int) (x : Int) : lastI (r ++ [x]) = x := by simp [lastI]
mutual
/-- All runs of a tree. -/
def Tr.ways (rs : List Rl) : Tr → List (List Int)
  | .node s ts => (Tr.pairs rs ts).flatMap fun p => (rs.filter fun r => decide (r.sym = s ∧ r.args = p.2)).map fun r => p.1 ++ [r.to]
def Tr.pairs (rs : List Rl) : List Tr → List (List Int × List Int)
  | [] => [([], [])]
  | t :: ts => (Tr.ways rs t).flatMap fun r => (Tr.pairs rs ts).map fun d => (r ++ d.1, lastI r :: d.2)
end
mutual
/-- The number of runs that end in a state. -/
def Tr.cnt (rs : List Rl) : Tr → Int → Nat
  | .node s ts, q => ((rs.filter fun r => decide (r.sym = s ∧ r.to = q)).map fun r => Tr.cnts rs ts r.args).sum
def Tr.cnts (rs : List Rl) : List Tr → List Int → Nat
  | [], [] => 1
  | t :: ts, q :: qs => Tr.cnt rs t q * Tr.cnts rs ts qs
  | [], _ :: _ => 0
  | _ :: _, [] => 0
end
theorem sum_ite {α : Type} (l : List α) (p : α → Bool) (c : Nat) : (l.map fun x => if p x = true then c else 0).sum = l.countP p * c := by
  induction l with
  | nil => simp
  | cons x l ih =>
    simp only [List.map_cons, List.sum_cons, List.countP_cons, ih]
    by_cases h : p x = true
    · simp [h, Nat.add_mul, Nat.add_comm]
    · simp [h]
theorem sum_flip {α β : Type} (l : List α) (m : List β) (p : α → β → Bool) : (l.map fun x => m.countP (p x)).sum = (m.map fun y => l.countP fun x => p x y).sum := by
  induction l with
  | nil =>
    induction m with
    | nil => rfl
    | cons y m ihm => simpa using ihm
  | cons x l ih =>
    simp only [List.map_cons, List.sum_cons, ih, List.countP_cons]
    clear ih
    induction m with
    | nil => rfl
    | cons y m ihm => simp only [List.countP_cons, List.map_cons, List.sum_cons]; omega
theorem sum_filter {α : Type} (l : List α) (p : α → Bool) (f : α → Nat) : ((l.filter p).map f).sum = (l.map fun x => if p x = true then f x else 0).sum := by
  induction l with
  | nil => rfl
  | cons x l ih =>
    by_cases h : p x = true
    · simp [h, ih]
    · simp [h, ih]
mutual
theorem Tr.cnt_ways (rs : List Rl) : ∀ (t : Tr) (q : Int), (t.ways rs).countP (fun r => decide (lastI r = q)) = t.cnt rs q
  | .node s ts, q => by
    have h1 : ∀ p ∈ Tr.pairs rs ts, ((rs.filter fun r => decide (r.sym = s ∧ r.args = p.2)).map fun r => p.1 ++ [r.to]).countP (fun r => decide (lastI r = q)) = rs.countP (fun r => decide (r.sym = s ∧ r.to = q ∧ r.args = p.2)) := by
      intro p _
      rw [List.countP_map, List.countP_filter]
      refine List.countP_congr fun r _ => ?_
      simp only [Function.comp, lastI_snoc, Bool.and_eq_true, decide_eq_true_eq]
      constructor
      · rintro ⟨h1, h2, h3⟩; exact ⟨h2, h1, h3⟩
      · rintro ⟨h1, h2, h3⟩; exact ⟨h2, h1, h3⟩
    rw [Tr.ways, List.countP_flatMap, Tr.cnt, sum_filter]
    have h2 : (Tr.pairs rs ts).map (List.countP (fun r => decide (lastI r = q)) ∘ fun p => (rs.filter fun r => decide (r.sym = s ∧ r.args = p.2)).map fun r => p.1 ++ [r.to]) = (Tr.pairs rs ts).map fun p => rs.countP fun r => decide (r.sym = s ∧ r.to = q ∧ r.args = p.2) :=
      List.map_congr_left fun p hp => h1 p hp
    rw [h2, sum_flip (Tr.pairs rs ts) rs fun p r => decide (r.sym = s ∧ r.to = q ∧ r.args = p.2)]
    congr 1
    refine List.map_congr_left fun r _ => ?_
    by_cases h : r.sym = s ∧ r.to = q
    · rw [if_pos (by simpa using h), ← Tr.cnts_pairs rs ts r.args]
      refine List.countP_congr fun p _ => ?_
      simp [h, eq_comm]
    · rw [if_neg (by simpa using h), List.countP_eq_zero]
      intro p _ h2
      simp only [decide_eq_true_eq] at h2
      exact h ⟨h2.1, h2.2.1⟩
theorem Tr.cnts_pairs (rs : List Rl) : ∀ (ts : List Tr) (qs : List Int), (Tr.pairs rs ts).countP (fun d => decide (d.2 = qs)) = Tr.cnts rs ts qs
  | [], [] => by simp [Tr.pairs, Tr.cnts]
  | [], _ :: _ => by simp [Tr.pairs, Tr.cnts]
  | t :: ts, [] => by
    rw [Tr.pairs, Tr.cnts, List.countP_eq_zero]
    intro d hd
    obtain ⟨r, _, h2⟩ := List.mem_flatMap.1 hd
    obtain ⟨e, _, rfl⟩ := List.mem_map.1 h2
    simp
  | t :: ts, q :: qs => by
    rw [Tr.pairs, List.countP_flatMap, Tr.cnts, ← Tr.cnt_ways rs t q, ← Tr.cnts_pairs rs ts qs, ← sum_ite]
    congr 1
    refine List.map_congr_left fun r _ => ?_
    simp only [Function.comp, List.countP_map]
    by_cases h : lastI r = q
    · rw [if_pos (by simpa using h)]
      refine List.countP_congr fun d _ => ?_
      simp [h]
    · rw [if_neg (by simpa using h), List.countP_eq_zero]
      intro d _
      simp [h]
end
/-! ### The least run -/
mutual
def Tr.least (rs : List Rl) : Tr → Int → Option (List Int)
  | .node s ts, q => (((rs.filter fun r => decide (r.sym = s ∧ r.to = q)).filterMap fun r => Tr.leasts rs ts r.args).map fun l => l ++ [q]).foldl bestO none
def Tr.leasts (rs : List Rl) : List Tr → List Int → Option (List Int)
  | [], [] => some []
  | t :: ts, q :: qs => match Tr.least rs t q, Tr.leasts rs ts qs with
    | some x, some y => some (x ++ y)
    | _, _ => none
  | [], _ :: _ => none
  | _ :: _, [] => none
end
mutual
theorem Tr.ways_len (rs : List Rl) : ∀ (t : Tr), ∀ r ∈ t.ways rs, r.length = t.size
  | .node s ts, r, hr => by
    rw [Tr.ways] at hr
    obtain ⟨p, hp, h2⟩ := List.mem_flatMap.1 hr
    obtain ⟨x, _, rfl⟩ := List.mem_map.1 h2
    have := (Tr.pairs_len rs ts p hp).1
    simp only [List.length_append, List.length_cons, List.length_nil, Tr.size]
    omega
theorem Tr.pairs_len (rs : List Rl) : ∀ (ts : List Tr), ∀ d ∈ Tr.pairs rs ts, d.1.length = Tr.sizes ts ∧ d.2.length = ts.length
  | [], d, hd => by simp [Tr.pairs] at hd; subst hd; simp [Tr.sizes]
  | t :: ts, d, hd => by
    rw [Tr.pairs] at hd
    obtain ⟨r, hr, h2⟩ := List.mem_flatMap.1 hd
    obtain ⟨e, he, rfl⟩ := List.mem_map.1 h2
    have h3 := Tr.ways_len rs t r hr
    have h4 := Tr.pairs_len rs ts e he
    simp only [List.length_append, List.length_cons, Tr.sizes]
    omega
end
/-- Nothing there and none, or the least. -/
def LeastO (o : Option (List Int)) (l : List (List Int)) : Prop := (l = [] ∧ o = none) ∨ ∃ m, o = some m ∧ IsLeast m l
theorem LeastO.of_best {l : List (List Int)} : LeastO (l.foldl bestO none) l := best_none
theorem LeastO.uniq {o o' : Option (List Int)} {l : List (List Int)} (h : LeastO o l) (h' : LeastO o' l) : o = o' := by
  rcases h with ⟨h1, h2⟩ | ⟨m, h1, h2⟩ <;> rcases h' with ⟨g1, g2⟩ | ⟨m', g1, g2⟩
  · rw [h2, g2]
  · subst h1; exact absurd g2.1 (by simp)
  · subst g1; exact absurd h2.1 (by simp)
  · rw [h1, g1, h2.uniq g2]
mutual
theorem Tr.least_ways (rs : List Rl) : ∀ (t : Tr) (q : Int), LeastO (t.least rs q) ((t.ways rs).filter fun r => decide (lastI r = q))
  | .node s ts, q => by
    rw [Tr.least]
    have hmem : ∀ x, x ∈ ((Tr.node s ts).ways rs).filter (fun r => decide (lastI r = q)) ↔ ∃ p ∈ Tr.pairs rs ts, ∃ r ∈ rs, r.sym = s ∧ r.to = q ∧ r.args = p.2 ∧ x = p.1 ++ [q] := by
      intro x
      simp only [List.mem_filter, Tr.ways, List.mem_flatMap, List.mem_map, decide_eq_true_eq]
      constructor
      · rintro ⟨⟨p, hp, r, ⟨hr, h1, h2⟩, rfl⟩, h3⟩
        rw [lastI_snoc] at h3
        exact ⟨p, hp, r, hr, h1, h3, h2, by rw [h3]⟩
      · rintro ⟨p, hp, r, hr, h1, h2, h3, rfl⟩
        exact ⟨⟨p, hp, r, ⟨hr, h1, h3⟩, by rw [h2]⟩, lastI_snoc _ _⟩
    have hcan : ∀ x, x ∈ ((rs.filter fun r => decide (r.sym = s ∧ r.to = q)).filterMap fun r => Tr.leasts rs ts r.args).map (fun l => l ++ [q]) ↔ ∃ r ∈ rs, r.sym = s ∧ r.to = q ∧ ∃ y, Tr.leasts rs ts r.args = some y ∧ x = y ++ [q] := by
      intro x
      simp only [List.mem_map, List.mem_filterMap, List.mem_filter, decide_eq_true_eq]
      constructor
      · rintro ⟨y, ⟨r, ⟨hr, h1, h2⟩, h3⟩, rfl⟩
        exact ⟨r, hr, h1, h2, y, h3, rfl⟩
      · rintro ⟨r, hr, h1, h2, y, h3, rfl⟩
        exact ⟨y, ⟨r, ⟨hr, h1, h2⟩, h3⟩, rfl⟩
    rcases LeastO.of_best (l := ((rs.filter fun r => decide (r.sym = s ∧ r.to = q)).filterMap fun r => Tr.leasts rs ts r.args).map fun l => l ++ [q]) with ⟨h1, h2⟩ | ⟨m, h1, h2, h3⟩
    · refine .inl ⟨?_, h2⟩
      rw [List.eq_nil_iff_forall_not_mem]
      intro x hx
      obtain ⟨p, hp, r, hr, g1, g2, g3, rfl⟩ := (hmem x).1 hx
      rcases Tr.leasts_pairs rs ts r.args with ⟨k1, _⟩ | ⟨y, k1, _⟩
      · have : p.1 ∈ ((Tr.pairs rs ts).filter fun d => decide (d.2 = r.args)).map (·.1) := List.mem_map.2 ⟨p, List.mem_filter.2 ⟨hp, by simp [g3]⟩, rfl⟩
        rw [k1] at this; cases this
      · have := (hcan (y ++ [q])).2 ⟨r, hr, g1, g2, y, k1, rfl⟩
        rw [h1] at this; cases this
    · refine .inr ⟨m, h1, ?_, fun x hx => ?_⟩
      · obtain ⟨r, hr, g1, g2, y, g3, rfl⟩ := (hcan m).1 h2
        rcases Tr.leasts_pairs rs ts r.args with ⟨_, k2⟩ | ⟨y', k1, k2, _⟩
        · rw [k2] at g3; cases g3
        · rw [k1] at g3
          cases g3
          obtain ⟨p, hp, rfl⟩ := List.mem_map.1 k2
          obtain ⟨hp, hp2⟩ := List.mem_filter.1 hp
          exact (hmem _).2 ⟨p, hp, r, hr, g1, g2, by simpa [eq_comm] using hp2, rfl⟩
      · obtain ⟨p, hp, r, hr, g1, g2, g3, rfl⟩ := (hmem x).1 hx
        have hpm : p.1 ∈ ((Tr.pairs rs ts).filter fun d => decide (d.2 = r.args)).map (·.1) := List.mem_map.2 ⟨p, List.mem_filter.2 ⟨hp, by simp [g3]⟩, rfl⟩
        rcases Tr.leasts_pairs rs ts r.args with ⟨k1, _⟩ | ⟨y, k1, k2, k3⟩
        · rw [k1] at hpm; cases hpm
        · have hy := h3 (y ++ [q]) ((hcan _).2 ⟨r, hr, g1, g2, y, k1, rfl⟩)
          obtain ⟨p', hp', rfl⟩ := List.mem_map.1 k2
          have hl : p'.1.length = p.1.length := by rw [(Tr.pairs_len rs ts p' (List.mem_filter.1 hp').1).1, (Tr.pairs_len rs ts p hp).1]
          exact cmpL_le_trans hy (cmpL_append_le hl (k3 _ hpm) (by rw [cmpL_self]; exact Int.le_refl _))
theorem Tr.leasts_pairs (rs : List Rl) : ∀ (ts : List Tr) (qs : List Int), LeastO (Tr.leasts rs ts qs) (((Tr.pairs rs ts).filter fun d => decide (d.2 = qs)).map (·.1))
  | [], [] => .inr ⟨[], rfl, by simp [Tr.pairs], fun x hx => by simp [Tr.pairs] at hx; subst hx; simp [cmpL]⟩
  | [], _ :: _ => .inl ⟨by simp [Tr.pairs], rfl⟩
  | t :: ts, [] => by
    refine .inl ⟨?_, rfl⟩
    rw [List.map_eq_nil_iff, List.filter_eq_nil_iff]
    intro d hd
    have := (Tr.pairs_len rs (t :: ts) d hd).2
    simp only [decide_eq_true_eq]
    intro e; rw [e] at this; simp at this
  | t :: ts, q :: qs => by
    have hmem : ∀ x, x ∈ ((Tr.pairs rs (t :: ts)).filter fun d => decide (d.2 = q :: qs)).map (·.1) ↔ ∃ r ∈ (t.ways rs).filter (fun r => decide (lastI r = q)), ∃ e ∈ ((Tr.pairs rs ts).filter fun d => decide (d.2 = qs)).map (·.1), x = r ++ e := by
      intro x
      simp only [List.mem_map, List.mem_filter, Tr.pairs, List.mem_flatMap, decide_eq_true_eq]
      constructor
      · rintro ⟨d, ⟨⟨r, hr, e, he, rfl⟩, h2⟩, rfl⟩
        simp only [List.cons.injEq] at h2
        exact ⟨r, ⟨hr, h2.1⟩, e.1, ⟨e, ⟨he, h2.2⟩, rfl⟩, rfl⟩
      · rintro ⟨r, ⟨hr, h1⟩, _, ⟨e, ⟨he, h2⟩, rfl⟩, rfl⟩
        exact ⟨(r ++ e.1, lastI r :: e.2), ⟨⟨r, hr, e, he, rfl⟩, by simp [h1, h2]⟩, rfl⟩
    rcases Tr.least_ways rs t q with ⟨h1, h2⟩ | ⟨x, h1, h2, h3⟩
    · refine .inl ⟨?_, by simp only [Tr.leasts, h2]⟩
      rw [List.eq_nil_iff_forall_not_mem]
      intro y hy
      obtain ⟨r, hr, _⟩ := (hmem y).1 hy
      rw [h1] at hr; cases hr
    · rcases Tr.leasts_pairs rs ts qs with ⟨g1, g2⟩ | ⟨y, g1, g2, g3⟩
      · refine .inl ⟨?_, by simp only [Tr.leasts, h1, g2]⟩
        rw [List.eq_nil_iff_forall_not_mem]
        intro z hz
        obtain ⟨r, hr, e, he, _⟩ := (hmem z).1 hz
        rw [g1] at he; cases he
      · refine .inr ⟨x ++ y, by simp only [Tr.leasts, h1, g1], (hmem _).2 ⟨x, h2, y, g2, rfl⟩, fun z hz => ?_⟩
        obtain ⟨r, hr, e, he, rfl⟩ := (hmem z).1 hz
        have hl : x.length = r.length := by rw [Tr.ways_len rs t x (List.mem_filter.1 h2).1, Tr.ways_len rs t r (List.mem_filter.1 hr).1]
        exact cmpL_append_le hl (h3 _ hr) (g3 _ he)
end
end Pal
