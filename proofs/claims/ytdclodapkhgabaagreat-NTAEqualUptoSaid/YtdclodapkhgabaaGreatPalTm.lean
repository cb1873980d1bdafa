/-
  Trimming: the states that come about and lead on, the automaton that is left, and its runs. Plain Lean, no program. Own work.
-/
import Derived.Test.YtdclodapkhgabaaGreatPalLa
namespace Pal
open Go Go.Proofs Go.Proofs.X
/-! ### Marks -/
def onL (m : List Bool) (q : Int) : Bool := m.getD q.toNat false
theorem onL_get {m : List Bool} {q : Int} {k : Nat} (hk : q.toNat = k) (h : k < m.length) : onL m q = m[k] := by
  unfold onL; rw [hk]; simp [List.getD, h]
/-- The same, or more marks. -/
structure Up (m m' : List Bool) : Prop where
  len : m'.length = m.length
  le : ∀ q, onL m q = true → onL m' q = true
  cnt : m' = m ∨ m.count true < m'.count true
theorem Up.refl (m : List Bool) : Up m m := ⟨rfl, fun _ h => h, .inl rfl⟩
theorem Up.trans {m m' m'' : List Bool} (h : Up m m') (h' : Up m' m'') : Up m m'' := by
  refine ⟨h'.len.trans h.len, fun q hq => h'.le q (h.le q hq), ?_⟩
  rcases h.cnt with rfl | h1
  · exact h'.cnt
  · rcases h'.cnt with rfl | h2
    · exact .inr h1
    · exact .inr (by omega)
theorem Up.back {m m' m'' : List Bool} (h : Up m m') (h' : Up m' m'') (e : m'' = m) : m' = m := by
  subst e
  rcases h.cnt with h1 | h1
  · exact h1
  · rcases h'.cnt with h2 | h2
    · exact h2.symm
    · omega
theorem up_set (m : List Bool) (i : Nat) : Up m (m.set i true) := by
  refine ⟨List.length_set, fun q hq => ?_, ?_⟩
  · unfold onL at *
    by_cases h : i = q.toNat
    · subst h
      by_cases h2 : q.toNat < m.length
      · simp [List.getD, h2]
      · simp [List.getD, h2] at hq
    · simpa [List.getD, List.getElem?_set_ne h] using hq
  · by_cases h : i < m.length
    · by_cases hb : m[i] = true
      · exact .inl (by rw [← hb]; exact List.set_getElem_self h)
      · refine .inr ?_
        have hb2 : m[i] = false := by simpa using hb
        have e1 : m = m.take i ++ false :: m.drop (i + 1) := by
          conv => lhs; rw [← List.take_append_drop i m, List.drop_eq_getElem_cons h, hb2]
        have e2 : m.set i true = m.take i ++ true :: m.drop (i + 1) := by
          rw [List.set_eq_take_append_cons_drop, if_pos h]
        rw [e2]
        conv => lhs; rw [e1]
        rw [List.count_append, List.count_append, List.count_cons, List.count_cons]
        simp
    · exact .inl (List.set_eq_of_length_le (by omega))
theorem set_on {m : List Bool} {i : Nat} (h : i < m.length) {q : Int} (hq : q.toNat = i) : onL (m.set i true) q = true := by
  unfold onL; rw [hq]; simp [List.getD, h]
theorem up_fold {α : Type} {S : List Bool → α → List Bool} (h : ∀ m r, Up m (S m r)) : ∀ (rs : List α) (m : List Bool), Up m (rs.foldl S m)
  | [], m => Up.refl m
  | r :: rs, m => (h m r).trans (up_fold h rs (S m r))
theorem fold_fix {α : Type} {S : List Bool → α → List Bool} (h : ∀ m r, Up m (S m r)) : ∀ {rs : List α} {m : List Bool}, rs.foldl S m = m → ∀ r ∈ rs, S m r = m
  | r :: rs, m, e, x, hx => by
    have h1 : S m r = m := (h m r).back (up_fold h rs (S m r)) e
    rcases List.mem_cons.1 hx with rfl | hx
    · exact h1
    · refine fold_fix h (rs := rs) ?_ x hx
      rw [List.foldl_cons, h1] at e
      exact e
theorem fold_more {α : Type} {S : List Bool → α → List Bool} (h : ∀ m r, Up m (S m r)) {rs : List α} {m : List Bool} {j : Nat} (hj : j < rs.length) :
    decide ((rs.take (j + 1)).foldl S m ≠ m) = (decide (S ((rs.take j).foldl S m) rs[j] ≠ (rs.take j).foldl S m) || decide ((rs.take j).foldl S m ≠ m)) := by
  rw [List.take_succ_eq_append_getElem hj, List.foldl_append]
  show decide (S ((rs.take j).foldl S m) rs[j] ≠ m) = _
  generalize hx : (rs.take j).foldl S m = x
  have h1 : Up m x := hx ▸ up_fold h _ m
  have h2 := h x rs[j]
  rw [← Bool.decide_or]
  refine decide_eq_decide.2 ⟨fun h3 => ?_, fun h3 h4 => ?_⟩
  · by_cases e : x = m
    · left; rw [e] at h3 ⊢; exact h3
    · exact .inr e
  · have e := h1.back h2 h4
    rcases h3 with h3 | h3
    · exact h3 (h4.trans e.symm)
    · exact h3 e
def iterF {α : Type} (F : α → α) : Nat → α → α
  | 0, x => x
  | n + 1, x => F (iterF F n x)
theorem iterF_shift {α : Type} (F : α → α) : ∀ n x, iterF F n (F x) = F (iterF F n x)
  | 0, _ => rfl
  | n + 1, x => congrArg F (iterF_shift F n x)
theorem iterF_fix {α : Type} {F : α → α} {x : α} (h : F x = x) : ∀ n, iterF F n x = x
  | 0 => rfl
  | n + 1 => (congrArg F (iterF_fix h n)).trans h
theorem iterF_add {α : Type} (F : α → α) (k : Nat) (x : α) : ∀ n, iterF F (n + k) x = iterF F n (iterF F k x)
  | 0 => by rw [Nat.zero_add]; rfl
  | n + 1 => by rw [Nat.add_right_comm]; exact congrArg F (iterF_add F k x n)
theorem up_iter {F : List Bool → List Bool} (h : ∀ m, Up m (F m)) (m : List Bool) : ∀ n, Up m (iterF F n m)
  | 0 => Up.refl m
  | n + 1 => (up_iter h m n).trans (h _)
theorem iter_stop {F : List Bool → List Bool} (h : ∀ m, Up m (F m)) : ∀ n m, m.length - m.count true ≤ n → F (iterF F n m) = iterF F n m
  | 0, m, hn => by
    show F m = m
    rcases (h m).cnt with e | e
    · exact e
    · have h1 := List.count_le_length (a := true) (l := F m)
      have h2 := (h m).len
      omega
  | n + 1, m, hn => by
    rcases (h m).cnt with e | e
    · rw [iterF_fix e]; exact e
    · have h1 := List.count_le_length (a := true) (l := F m)
      have h2 := (h m).len
      have h3 := iter_stop h n (F m) (by omega)
      rw [iterF_shift] at h3
      exact h3
theorem iter_same {F : List Bool → List Bool} {m : List Bool} {k n : Nat} (hk : F (iterF F k m) = iterF F k m) (hn : F (iterF F n m) = iterF F n m) : iterF F k m = iterF F n m := by
  rcases Nat.le_total k n with h | h
  · have e := iterF_add F k m (n - k)
    rw [Nat.sub_add_cancel h, iterF_fix hk] at e
    exact e.symm
  · have e := iterF_add F n m (k - n)
    rw [Nat.sub_add_cancel h, iterF_fix hn] at e
    exact e
/-! ### Coming about and leading on -/
def comeS (m : List Bool) (r : Rl) : List Bool := if r.args.all (onL m) = true then m.set r.to.toNat true else m
def leadS (c m : List Bool) (r : Rl) : List Bool := if onL m r.to = true ∧ r.args.all (onL c) = true then r.args.foldl (fun m q => m.set q.toNat true) m else m
theorem up_comeS (m : List Bool) (r : Rl) : Up m (comeS m r) := by
  unfold comeS; split
  · exact up_set _ _
  · exact Up.refl _
theorem up_sets (qs : List Int) (m : List Bool) : Up m (qs.foldl (fun m (q : Int) => m.set q.toNat true) m) := up_fold (fun m q => up_set m _) qs m
theorem up_leadS (c m : List Bool) (r : Rl) : Up m (leadS c m r) := by
  unfold leadS; split
  · exact up_sets _ _
  · exact Up.refl _
def comeF (rs : List Rl) (m : List Bool) : List Bool := rs.foldl comeS m
def leadF (c : List Bool) (rs : List Rl) (m : List Bool) : List Bool := rs.foldl (leadS c) m
theorem up_comeF (rs : List Rl) (m : List Bool) : Up m (comeF rs m) := up_fold up_comeS rs m
theorem up_leadF (c : List Bool) (rs : List Rl) (m : List Bool) : Up m (leadF c rs m) := up_fold (up_leadS c) rs m
def noneL (n : Nat) : List Bool := List.replicate n false
def finL (F : List Int) (n : Nat) : List Bool := F.foldl (fun m (q : Int) => m.set q.toNat true) (noneL n)
def comeA (a : Au) : List Bool := iterF (comeF a.rules) (a.states.toNat + 1) (noneL a.states.toNat)
def leadA (a : Au) : List Bool := iterF (leadF (comeA a) a.rules) (a.states.toNat + 1) (finL a.final a.states.toNat)
theorem comeA_len (a : Au) : (comeA a).length = a.states.toNat := (up_iter (up_comeF a.rules) _ _).len.trans (List.length_replicate ..)
theorem finL_len (F : List Int) (n : Nat) : (finL F n).length = n := (up_sets F _).len.trans (List.length_replicate ..)
theorem leadA_len (a : Au) : (leadA a).length = a.states.toNat := (up_iter (up_leadF _ a.rules) _ _).len.trans (finL_len _ _)
theorem comeA_fix (a : Au) : comeF a.rules (comeA a) = comeA a := iter_stop (up_comeF a.rules) _ _ (by rw [noneL, List.length_replicate]; omega)
theorem leadA_fix (a : Au) : leadF (comeA a) a.rules (leadA a) = leadA a := iter_stop (up_leadF _ a.rules) _ _ (by rw [finL_len]; omega)
/-- What a search finds that stops when nothing changes. -/
theorem comeA_is {a : Au} {k : Nat} (h : comeF a.rules (iterF (comeF a.rules) k (noneL a.states.toNat)) = iterF (comeF a.rules) k (noneL a.states.toNat)) : iterF (comeF a.rules) k (noneL a.states.toNat) = comeA a := iter_same h (comeA_fix a)
theorem leadA_is {a : Au} {k : Nat} (h : leadF (comeA a) a.rules (iterF (leadF (comeA a) a.rules) k (finL a.final a.states.toNat)) = iterF (leadF (comeA a) a.rules) k (finL a.final a.states.toNat)) : iterF (leadF (comeA a) a.rules) k (finL a.final a.states.toNat) = leadA a := iter_same h (leadA_fix a)
theorem come_closed {a : Au} (ha : AuOk a) {r : Rl} (hr : r ∈ a.rules) (h : ∀ q ∈ r.args, onL (comeA a) q = true) : onL (comeA a) r.to = true := by
  have h1 : comeS (comeA a) r = comeA a := fold_fix up_comeS (comeA_fix a) r hr
  obtain ⟨_, _, _, _, k5, k6⟩ := ha.ru r hr
  unfold comeS at h1
  rw [if_pos (List.all_eq_true.2 h)] at h1
  rw [← h1]
  exact set_on (by rw [comeA_len]; omega) rfl
theorem sets_on : ∀ {qs : List Int} {m : List Bool} {q : Int}, q ∈ qs → q.toNat < m.length → onL (qs.foldl (fun m (q : Int) => m.set q.toNat true) m) q = true
  | x :: qs, m, q, h, hl => by
    rcases List.mem_cons.1 h with rfl | h
    · exact (up_sets qs _).le _ (set_on hl rfl)
    · exact sets_on (qs := qs) (m := m.set x.toNat true) h (by rw [List.length_set]; exact hl)
theorem lead_closed {a : Au} (ha : AuOk a) {r : Rl} (hr : r ∈ a.rules) (h : ∀ q ∈ r.args, onL (comeA a) q = true) (ht : onL (leadA a) r.to = true) : ∀ q ∈ r.args, onL (leadA a) q = true := by
  intro q hq
  have h1 : leadS (comeA a) (leadA a) r = leadA a := fold_fix (up_leadS _) (leadA_fix a) r hr
  obtain ⟨_, _, _, k4, _, _⟩ := ha.ru r hr
  have := k4 q hq
  unfold leadS at h1
  rw [if_pos ⟨ht, List.all_eq_true.2 h⟩] at h1
  rw [← h1]
  exact sets_on hq (by rw [leadA_len]; omega)
theorem lead_final {a : Au} (ha : AuOk a) {q : Int} (hq : q ∈ a.final) : onL (leadA a) q = true := by
  have := ha.fi q hq
  exact (up_iter (up_leadF _ a.rules) _ _).le q (sets_on hq (by rw [noneL, List.length_replicate]; omega))
mutual
theorem cnt_come {a : Au} (ha : AuOk a) {rs : List Rl} (hrs : ∀ r ∈ rs, r ∈ a.rules) : ∀ (t : Tr) (q : Int), 0 < t.cnt rs q → onL (comeA a) q = true
  | .node s ts, q, h => by
    obtain ⟨r, h1, h2, rfl, h4⟩ := Tr.cnt_pos.1 h
    exact come_closed ha (hrs r h1) (cnts_come ha hrs ts r.args h4)
theorem cnts_come {a : Au} (ha : AuOk a) {rs : List Rl} (hrs : ∀ r ∈ rs, r ∈ a.rules) : ∀ (ts : List Tr) (qs : List Int), 0 < Tr.cnts rs ts qs → ∀ q ∈ qs, onL (comeA a) q = true
  | [], [], _, q, hq => by cases hq
  | t :: ts, x :: qs, h, q, hq => by
    obtain ⟨h1, h2⟩ := Tr.cnts_pos.1 h
    rcases List.mem_cons.1 hq with rfl | hq
    · exact cnt_come ha hrs t _ h1
    · exact cnts_come ha hrs ts qs h2 q hq
  | [], _ :: _, h, _, _ => absurd h (Nat.lt_irrefl 0)
  | _ :: _, [], h, _, _ => absurd h (Nat.lt_irrefl 0)
end
/-! ### What is left -/
def stayA (a : Au) (q : Int) : Bool := onL (comeA a) q && onL (leadA a) q
def cntN (a : Au) (s : Nat) : Nat := ((List.range s).filter fun (x : Nat) => stayA a (x : Int)).length
theorem cntN_succ (a : Au) (s : Nat) : cntN a (s + 1) = cntN a s + if stayA a (s : Int) = true then 1 else 0 := by
  unfold cntN
  rw [List.range_succ, List.filter_append, List.length_append]
  by_cases h : stayA a (s : Int) = true
  · rw [if_pos h, List.filter_cons, h]; rfl
  · rw [if_neg h, List.filter_cons, Bool.not_eq_true _ |>.mp h]; rfl
theorem cntN_mono (a : Au) {x y : Nat} (h : x ≤ y) : cntN a x ≤ cntN a y := by
  induction y with
  | zero => rw [Nat.le_zero.1 h]; exact Nat.le_refl _
  | succ y ih =>
    by_cases e : x = y + 1
    · rw [e]; exact Nat.le_refl _
    · have := ih (by omega)
      have := cntN_succ a y
      omega
theorem cntN_lt (a : Au) {x y : Nat} (h : x < y) (hx : stayA a (x : Int) = true) : cntN a x < cntN a y := by
  have h1 := cntN_mono a (show x + 1 ≤ y from h)
  rw [cntN_succ, if_pos hx] at h1
  omega
theorem cntN_le (a : Au) (s : Nat) : cntN a s ≤ s := by
  unfold cntN; exact Nat.le_trans (List.length_filter_le _ _) (by simp)
def newA (a : Au) (q : Int) : Int := (cntN a q.toNat : Nat)
theorem newA_inj {a : Au} {x y : Int} (hx : stayA a x = true) (hy : stayA a y = true) (h0 : 0 ≤ x) (h1 : 0 ≤ y) (h : newA a x = newA a y) : x = y := by
  have e : cntN a x.toNat = cntN a y.toNat := by unfold newA at h; omega
  rcases Nat.lt_trichotomy x.toNat y.toNat with h2 | h2 | h2
  · have := cntN_lt a h2 (by rw [Int.toNat_of_nonneg h0]; exact hx); omega
  · omega
  · have := cntN_lt a h2 (by rw [Int.toNat_of_nonneg h1]; exact hy); omega
def keepR (a : Au) (r : Rl) : Bool := stayA a r.to && r.args.all (stayA a)
def newR (a : Au) (r : Rl) : Rl := ⟨r.sym, r.args.map (newA a), newA a r.to⟩
def leftR (a : Au) (rs : List Rl) : List Rl := (rs.filter (keepR a)).map (newR a)
def leftF (a : Au) (F : List Int) : List Int := (F.filter (stayA a)).map (newA a)
def trimA (a : Au) : Au := ⟨a.ranks, (cntN a a.states.toNat : Nat), leftR a a.rules, leftF a a.final⟩
theorem keepR_iff {a : Au} {r : Rl} : keepR a r = true ↔ stayA a r.to = true ∧ ∀ q ∈ r.args, stayA a q = true := by
  unfold keepR; rw [Bool.and_eq_true, List.all_eq_true]
theorem newA_bound {a : Au} {q : Int} (h : stayA a q = true) (h0 : 0 ≤ q ∧ q < a.states) : 0 ≤ newA a q ∧ newA a q < (cntN a a.states.toNat : Nat) := by
  have := cntN_lt a (x := q.toNat) (y := a.states.toNat) (by omega) (by rw [Int.toNat_of_nonneg h0.1]; exact h)
  unfold newA; omega
theorem trimA_ok {a : Au} (ha : AuOk a) : AuOk (trimA a) := by
  have hs := ha.st
  refine ⟨ha.rl, ha.rk, ⟨by show (0 : Int) ≤ (cntN a a.states.toNat : Nat); omega, by have := cntN_le a a.states.toNat; show ((cntN a a.states.toNat : Nat) : Int) ≤ 256; omega⟩, ?_, fun r hr => ?_, fun q hq => ?_⟩
  · show (leftR a a.rules).length ≤ _
    unfold leftR; rw [List.length_map]
    exact Nat.le_trans (List.length_filter_le _ _) ha.ul
  · obtain ⟨x, hx, rfl⟩ := List.mem_map.1 hr
    obtain ⟨hx, hk⟩ := List.mem_filter.1 hx
    obtain ⟨k1, k2, k3, k4, k5, k6⟩ := ha.ru x hx
    obtain ⟨g1, g2⟩ := keepR_iff.1 hk
    have h5 := newA_bound g1 ⟨k5, k6⟩
    refine ⟨k1, k2, by show ((x.args.map (newA a)).length : Int) = _; rw [List.length_map]; exact k3, fun q hq => ?_, h5.1, h5.2⟩
    obtain ⟨y, hy, rfl⟩ := List.mem_map.1 hq
    exact newA_bound (g2 y hy) (k4 y hy)
  · obtain ⟨x, hx, rfl⟩ := List.mem_map.1 hq
    obtain ⟨hx, hk⟩ := List.mem_filter.1 hx
    exact newA_bound hk (ha.fi x hx)
mutual
theorem cnt_trim {a : Au} (ha : AuOk a) {rs : List Rl} (hrs : ∀ r ∈ rs, r ∈ a.rules) : ∀ (t : Tr) (q : Int), stayA a q = true → 0 ≤ q → t.cnt (leftR a rs) (newA a q) = t.cnt rs q
  | .node s ts, q, hq, h0 => by
    rw [Tr.cnt, Tr.cnt, sum_filter, sum_filter rs, leftR, List.map_map, sum_filter]
    refine congrArg List.sum (List.map_congr_left fun r hr => ?_)
    obtain ⟨k1, k2, k3, k4, k5, k6⟩ := ha.ru r (hrs r hr)
    simp only [Function.comp, decide_eq_true_eq]
    by_cases h1 : r.sym = s ∧ r.to = q
    · rw [if_pos h1]
      by_cases h2 : keepR a r = true
      · rw [if_pos h2, if_pos (show (newR a r).sym = s ∧ (newR a r).to = newA a q from ⟨h1.1, by show newA a r.to = _; rw [h1.2]⟩)]
        exact cnts_trim ha hrs ts r.args (keepR_iff.1 h2).2 fun x hx => (k4 x hx).1
      · rw [if_neg h2]
        rcases Nat.eq_zero_or_pos (Tr.cnts rs ts r.args) with h3 | h3
        · exact h3.symm
        · exfalso
          have h4 := cnts_come ha hrs ts r.args h3
          rw [← h1.2] at hq
          have h5 := (Bool.and_eq_true _ _).mp hq
          have h6 := lead_closed ha (hrs r hr) h4 h5.2
          exact h2 (keepR_iff.2 ⟨hq, fun x hx => (Bool.and_eq_true _ _).mpr ⟨h4 x hx, h6 x hx⟩⟩)
    · rw [if_neg h1]
      by_cases h2 : keepR a r = true
      · rw [if_pos h2, if_neg fun h => h1 ⟨h.1, newA_inj (keepR_iff.1 h2).1 hq k5 h0 h.2⟩]
      · rw [if_neg h2]
theorem cnts_trim {a : Au} (ha : AuOk a) {rs : List Rl} (hrs : ∀ r ∈ rs, r ∈ a.rules) : ∀ (ts : List Tr) (qs : List Int), (∀ q ∈ qs, stayA a q = true) → (∀ q ∈ qs, 0 ≤ q) → Tr.cnts (leftR a rs) ts (qs.map (newA a)) = Tr.cnts rs ts qs
  | [], [], _, _ => by simp [Tr.cnts]
  | t :: ts, q :: qs, h, h0 => by
    rw [List.map_cons, Tr.cnts, Tr.cnts, cnt_trim ha hrs t q (h q List.mem_cons_self) (h0 q List.mem_cons_self), cnts_trim ha hrs ts qs (fun x hx => h x (List.mem_cons_of_mem _ hx)) fun x hx => h0 x (List.mem_cons_of_mem _ hx)]
  | [], _ :: _, _, _ => by simp [Tr.cnts]
  | _ :: _, [], _, _ => by simp [Tr.cnts]
end
theorem map_injOn {f : Int → Int} : ∀ {xs ys : List Int}, (∀ x ∈ xs, ∀ y ∈ ys, f x = f y → x = y) → xs.map f = ys.map f → xs = ys
  | [], [], _, _ => rfl
  | x :: xs, y :: ys, h, e => by
    rw [List.map_cons, List.map_cons] at e
    obtain ⟨e1, e2⟩ := List.cons.inj e
    rw [h x List.mem_cons_self y List.mem_cons_self e1, map_injOn (fun u hu v hv => h u (List.mem_cons_of_mem _ hu) v (List.mem_cons_of_mem _ hv)) e2]
  | [], _ :: _, _, e => by simp at e
  | _ :: _, [], _, e => by simp at e
theorem newR_inj {a : Au} (ha : AuOk a) {r s : Rl} (hr : r ∈ a.rules) (hs : s ∈ a.rules) (h1 : keepR a r = true) (h2 : keepR a s = true) (h : newR a r = newR a s) : r = s := by
  obtain ⟨_, _, _, k4, k5, _⟩ := ha.ru r hr
  obtain ⟨_, _, _, l4, l5, _⟩ := ha.ru s hs
  obtain ⟨g1, g2⟩ := keepR_iff.1 h1
  obtain ⟨g3, g4⟩ := keepR_iff.1 h2
  have e1 : (newR a r).sym = (newR a s).sym := congrArg Rl.sym h
  have e1 : r.sym = s.sym := e1
  have e2 : (newR a r).args = (newR a s).args := congrArg Rl.args h
  have e2 : r.args.map (newA a) = s.args.map (newA a) := e2
  have e3 : (newR a r).to = (newR a s).to := congrArg Rl.to h
  have e3 : newA a r.to = newA a s.to := e3
  have e4 := newA_inj g1 g3 k5 l5 e3
  have e5 := map_injOn (fun x hx y hy => newA_inj (g2 x hx) (g4 y hy) (k4 x hx).1 (l4 y hy).1) e2
  cases r; cases s
  simp only [Rl.mk.injEq] at *
  exact ⟨e1, e5, e4⟩
theorem num_trim {a : Au} (ha : AuOk a) (t : Tr) : numA (trimA a) t = numA a t := by
  have hp : (sortO (leftR a a.rules)).Perm (leftR a (sortO a.rules)) := by
    refine perm_mem (sortO_nodup _) (nodup_mapOn (fun r hr s hs e => ?_) ((sortO_nodup _).filter _)) fun x => by simp only [leftR, sortO_mem, List.mem_map, List.mem_filter]
    obtain ⟨h1, h2⟩ := List.mem_filter.1 hr
    obtain ⟨h3, h4⟩ := List.mem_filter.1 hs
    exact newR_inj ha (sortO_mem.1 h1) (sortO_mem.1 h3) h2 h4 e
  have hf : (sortI (leftF a a.final)).Perm (leftF a (sortI a.final)) := by
    refine perm_mem (sortI_nodup _) (nodup_mapOn (fun r hr s hs e => ?_) ((sortI_nodup _).filter _)) fun x => by simp only [leftF, sortI_mem, List.mem_map, List.mem_filter]
    obtain ⟨h1, h2⟩ := List.mem_filter.1 hr
    obtain ⟨h3, h4⟩ := List.mem_filter.1 hs
    exact newA_inj h2 h4 (ha.fi _ (sortI_mem.1 h1)).1 (ha.fi _ (sortI_mem.1 h3)).1 e
  unfold numA cntA
  show ((sortI (leftF a a.final)).map fun q => t.cnt (sortO (leftR a a.rules)) q).sum = _
  rw [(hf.map _).sum_nat, leftF, List.map_map, sum_filter]
  refine congrArg List.sum (List.map_congr_left fun q hq => ?_)
  have hqF := sortI_mem.1 hq
  have hrs : ∀ r ∈ sortO a.rules, r ∈ a.rules := fun r hr => sortO_mem.1 hr
  by_cases h : stayA a q = true
  · rw [if_pos h]
    show t.cnt _ (newA a q) = _
    rw [Tr.cnt_perm hp]
    exact cnt_trim ha hrs t q h (ha.fi q hqF).1
  · rw [if_neg h]
    rcases Nat.eq_zero_or_pos (t.cnt (sortO a.rules) q) with h3 | h3
    · exact h3.symm
    · exact absurd ((Bool.and_eq_true _ _).mpr ⟨cnt_come ha hrs t q h3, lead_final ha hqF⟩) h
theorem ask_trim {a : Au} (h : auErr a = 0) (t : Tr) : askErr (normA (trimA a)) t = askErr a t := by
  have he : auErr (trimA a) = 0 := (trimA_ok (AuOk.of h)).err (show ranksErr a.ranks = 0 from ranks_of_auErr h)
  rw [ask_norm he]
  unfold askErr
  rw [if_neg (not_not_intro he), if_neg (not_not_intro h)]
  rfl
theorem acc_trim {a : Au} (h : auErr a = 0) (t : Tr) : accA (normA (trimA a)) t = accA a t := by
  by_cases hq : askErr a t = 0
  · rw [acc_num ((ask_trim h t).trans hq), acc_num hq, numA_norm, num_trim (AuOk.of h)]
  · rw [accA_no hq, accA_no (by rw [ask_trim h]; exact hq)]
end Pal
