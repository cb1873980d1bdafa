/-
  Marks and numbers in a block, as a walk over Trim meets them. Own work. No statement of the seat is proved here.
-/
import Derived.Test.YtdclodapkhgabaaGreatPalTm
import Derived.Test.YtdclodapkhgabaaGreatPalFo
namespace Pal
open Go Go.Proofs Go.Proofs.X
def mkL (m : List Bool) : Array Value := (m.map Value.bool).toArray
theorem mkL_size (m : List Bool) : (mkL m).size = m.length := by simp [mkL]
theorem mkL_get {m : List Bool} {q : Int} {off : Nat} (h : q.toNat < m.length) (ho : off = q.toNat) : (mkL m)[off]? = some (.bool (onL m q)) := by
  subst ho
  rw [onL_get rfl h]
  simp [mkL, h]
theorem mkL_put {m : List Bool} {q : Int} {off : Nat} (h : q.toNat < m.length) (ho : off = q.toNat) : putCells (mkL m) off (Value.bool true).cells.toList = mkL (m.set q.toNat true) := by
  subst ho
  have e : putCells (mkL m) q.toNat (Value.bool true).cells.toList = (mkL m).setIfInBounds q.toNat (.bool true) := putCells_one (by rw [mkL_size]; exact h)
  rw [e]
  simp [mkL, List.map_set]
theorem mkL_made (n : Nat) : madeCells #[.bool false] (n * 1) = mkL (noneL n) := by
  rw [made_one]; simp [mkL, noneL]
theorem At.mark {H : View} {b : Nat} {m : List Bool} {q : Int} (h : At H b 0 (mkL m).toList) (hq : q.toNat < m.length) : At H b (0 + q.toNat * 1) [.bool (onL m q)] := by
  rw [Nat.mul_one]
  exact h.one (by rw [Array.getElem?_toList]; exact mkL_get hq rfl)
theorem At.markN {H : View} {b : Nat} {m : List Bool} {s : Nat} (h : At H b 0 (mkL m).toList) (hq : s < m.length) : At H b (0 + s * 1) [.bool (onL m (s : Int))] := h.mark (q := (s : Int)) (by simpa using hq)
def fnC (n : Nat) (f : Nat → Int) : Array Value := ((List.range n).map fun (x : Nat) => Value.int .i64 (f x)).toArray
theorem fnC_size (n : Nat) (f : Nat → Int) : (fnC n f).size = n := by simp [fnC]
theorem fnC_get {n off : Nat} {f : Nat → Int} (h : off < n) : (fnC n f)[off]? = some (.int .i64 (f off)) := by simp [fnC, h]
theorem fnC_put {n off s : Nat} {f g : Nat → Int} {v : Int} (h : s < n) (ho : off = s) (hg : ∀ x, g x = if x = s then v else f x) : putCells (fnC n f) off (Value.int .i64 v).cells.toList = fnC n g := by
  subst ho
  have e : putCells (fnC n f) off (Value.int .i64 v).cells.toList = (fnC n f).setIfInBounds off (.int .i64 v) := putCells_one (by rw [fnC_size]; exact h)
  rw [e]
  apply Array.ext
  · simp [fnC]
  · intro i h1 h2
    have hi : i < n := by rw [fnC_size] at h2; exact h2
    rw [Array.getElem_setIfInBounds (by rw [fnC_size]; exact hi)]
    simp only [fnC, List.getElem_toArray, List.getElem_map, List.getElem_range]
    rw [hg i]
    by_cases e : off = i
    · subst e; simp
    · rw [if_neg e, if_neg (fun h => e h.symm)]
theorem fnC_made (n : Nat) : madeCells #[.int .i64 0] (n * 1) = fnC n (fun _ => 0) := by
  rw [made_one]
  unfold fnC
  congr 1
  refine List.ext_getElem (by simp) fun i h1 h2 => by simp
theorem At.fn {H : View} {b n : Nat} {f : Nat → Int} {q : Int} (h : At H b 0 (fnC n f).toList) (hq : q.toNat < n) : At H b (0 + q.toNat * 1) [.int .i64 (f q.toNat)] := by
  rw [Nat.mul_one]
  exact h.one (by rw [Array.getElem?_toList]; exact fnC_get hq)
def newV (a : Au) (x : Nat) : Int := if stayA a (x : Int) = true then (cntN a x : Nat) else -1
def toF (a : Au) (s : Nat) (x : Nat) : Int := if x < s then newV a x else 0
def toG (a : Au) (s : Nat) (x : Nat) : Int := if x = s then -1 else toF a s x
theorem toF_zero (a : Au) : toF a 0 = fun _ => 0 := by funext x; simp [toF]
theorem toG_is (a : Au) (s x : Nat) : toG a s x = if x = s then -1 else toF a s x := rfl
theorem toF_stay {a : Au} {s : Nat} (h : stayA a (s : Int) = true) (x : Nat) : toF a (s + 1) x = if x = s then ((cntN a s : Nat) : Int) else toG a s x := by
  unfold toF toG toF
  by_cases e : x = s
  · subst e; rw [if_pos (by omega), if_pos rfl]; unfold newV; rw [if_pos h]
  · rw [if_neg e, if_neg e]
    by_cases h2 : x < s
    · rw [if_pos (by omega), if_pos h2]
    · rw [if_neg (by omega), if_neg h2]
theorem toF_gone {a : Au} {s : Nat} (h : stayA a (s : Int) = false) : toG a s = toF a (s + 1) := by
  funext x
  unfold toG toF
  by_cases e : x = s
  · subst e; rw [if_pos rfl, if_pos (by omega)]; unfold newV; rw [if_neg (by rw [h]; decide)]
  · rw [if_neg e]
    by_cases h2 : x < s
    · rw [if_pos h2, if_pos (by omega)]
    · rw [if_neg h2, if_neg (by omega)]
theorem toF_full {a : Au} {n x : Nat} (h : x < n) : toF a n x = newV a x := by unfold toF; rw [if_pos h]
theorem newV_neg {a : Au} {x : Nat} : newV a x < 0 ↔ stayA a (x : Int) = false := by
  unfold newV
  by_cases h : stayA a (x : Int) = true
  · rw [if_pos h, h]; simp
  · rw [if_neg h, Bool.not_eq_true _ |>.mp h]; simp
theorem newV_new {a : Au} {q : Int} (h : stayA a q = true) (h0 : 0 ≤ q) : newV a q.toNat = newA a q := by
  unfold newV newA
  rw [Int.toNat_of_nonneg h0, if_pos h]
theorem newV_i64 {a : Au} {x : Nat} (hx : x ≤ 65536) : i64ok (newV a x) := by
  have := cntN_le a x
  unfold newV
  split <;> simp only [i64ok] <;> omega
theorem set_more {m : List Bool} {q : Int} (h : q.toNat < m.length) : decide (m.set q.toNat true ≠ m) = !onL m q := by
  cases hb : onL m q with
  | true =>
    rw [onL_get rfl h] at hb
    have : m.set q.toNat true = m := by rw [← hb]; exact List.set_getElem_self h
    rw [this]; simp
  | false =>
    have : m.set q.toNat true ≠ m := fun e => by
      have h2 := set_on (m := m) h (q := q) rfl
      rw [e, hb] at h2; cases h2
    simp [this]
theorem come_old {m : List Bool} {r : Rl} (h : r.to.toNat < m.length) (ho : onL m r.to = true) : comeS m r = m := by
  unfold comeS
  split
  · have := set_more h
    rw [ho] at this
    exact Decidable.not_not.1 (of_decide_eq_false this)
  · rfl
theorem come_not {m : List Bool} {r : Rl} (h : r.args.all (onL m) = false) : comeS m r = m := by
  unfold comeS; rw [if_neg (by rw [h]; decide)]
theorem come_new {m : List Bool} {r : Rl} (h : r.to.toNat < m.length) (ho : onL m r.to = false) (ha : r.args.all (onL m) = true) : comeS m r = m.set r.to.toNat true ∧ decide (comeS m r ≠ m) = true := by
  have e : comeS m r = m.set r.to.toNat true := by unfold comeS; rw [if_pos ha]
  refine ⟨e, ?_⟩
  rw [e, set_more h, ho]; rfl
def setsL (m : List Bool) (qs : List Int) : List Bool := qs.foldl (fun m (q : Int) => m.set q.toNat true) m
theorem setsL_len (m : List Bool) (qs : List Int) : (setsL m qs).length = m.length := (up_sets qs m).len
theorem setsL_snoc {m : List Bool} {qs : List Int} {k : Nat} (hk : k < qs.length) : setsL m (qs.take (k + 1)) = (setsL m (qs.take k)).set qs[k].toNat true := by
  unfold setsL
  rw [List.take_succ_eq_append_getElem hk, List.foldl_append]
  rfl
theorem setsL_more {m : List Bool} {qs : List Int} {k : Nat} (hk : k < qs.length) (hq : qs[k].toNat < m.length) : decide (setsL m (qs.take (k + 1)) ≠ m) = (!onL (setsL m (qs.take k)) qs[k] || decide (setsL m (qs.take k) ≠ m)) := by
  have h := fold_more (S := fun m (q : Int) => m.set q.toNat true) (fun m q => up_set m _) (m := m) hk
  rw [← set_more (m := setsL m (qs.take k)) (q := qs[k]) (by rw [setsL_len]; exact hq)]
  exact h
theorem lead_do {c m : List Bool} {r : Rl} (h1 : onL m r.to = true) (h2 : r.args.all (onL c) = true) : leadS c m r = setsL m r.args := by
  unfold leadS; rw [if_pos ⟨h1, h2⟩]; rfl
theorem lead_not {c m : List Bool} {r : Rl} (h : ¬ (onL m r.to = true ∧ r.args.all (onL c) = true)) : leadS c m r = m := by
  unfold leadS; rw [if_neg h]
theorem finL_is (F : List Int) (n : Nat) : setsL (noneL n) F = finL F n := rfl
theorem leftR_snoc {a : Au} {rs : List Rl} {k : Nat} (hk : k < rs.length) : leftR a (rs.take (k + 1)) = leftR a (rs.take k) ++ if keepR a rs[k] = true then [newR a rs[k]] else [] := by
  unfold leftR
  rw [List.take_succ_eq_append_getElem hk, List.filter_append, List.map_append]
  by_cases h : keepR a rs[k] = true
  · rw [if_pos h, List.filter_cons_of_pos h]; rfl
  · rw [if_neg h, List.filter_cons_of_neg h]; rfl
theorem leftF_snoc {a : Au} {F : List Int} {k : Nat} (hk : k < F.length) : leftF a (F.take (k + 1)) = leftF a (F.take k) ++ if stayA a F[k] = true then [newA a F[k]] else [] := by
  unfold leftF
  rw [List.take_succ_eq_append_getElem hk, List.filter_append, List.map_append]
  by_cases h : stayA a F[k] = true
  · rw [if_pos h, List.filter_cons_of_pos h]; rfl
  · rw [if_neg h, List.filter_cons_of_neg h]; rfl
theorem leftR_len (a : Au) (rs : List Rl) : (leftR a rs).length ≤ rs.length := by unfold leftR; rw [List.length_map]; exact List.length_filter_le _ _
theorem leftF_len (a : Au) (F : List Int) : (leftF a F).length ≤ F.length := by unfold leftF; rw [List.length_map]; exact List.length_filter_le _ _
end Pal
namespace Pal
open Go Go.Proofs Go.Proofs.X
/-! ### As the reference trims -/
theorem mkL_putv {m : List Bool} {v : Bool} {i off : Nat} (h : i < m.length) (ho : off = i) : putCells (mkL m) off (Value.bool v).cells.toList = mkL (m.set i v) := by
  subst ho
  have e : putCells (mkL m) off (Value.bool v).cells.toList = (mkL m).setIfInBounds off (.bool v) := putCells_one (by rw [mkL_size]; exact h)
  rw [e]
  simp [mkL, List.map_set]
def stL (a : Au) (n s : Nat) : List Bool := (List.range n).map fun (x : Nat) => decide (x < s) && stayA a (x : Int)
theorem stL_len (a : Au) (n s : Nat) : (stL a n s).length = n := by simp [stL]
theorem stL_zero (a : Au) (n : Nat) : stL a n 0 = noneL n := by
  refine List.ext_getElem (by simp [stL, noneL]) fun i h1 h2 => by simp [stL, noneL]
theorem stL_step {a : Au} {n s : Nat} {v : Bool} (hv : v = stayA a (s : Int)) : (stL a n s).set s v = stL a n (s + 1) := by
  subst hv
  refine List.ext_getElem (by simp [stL]) fun i h1 h2 => ?_
  rw [List.getElem_set]
  simp only [stL, List.getElem_map, List.getElem_range]
  by_cases e : s = i
  · subst e; simp
  · rw [if_neg e]
    congr 1
    exact decide_eq_decide.2 ⟨fun h => by omega, fun h => by omega⟩
theorem mkL_putS {a : Au} {n s off : Nat} {v : Bool} (h : s < n) (ho : off = s) (hv : v = stayA a (s : Int)) : putCells (mkL (stL a n s)) off (Value.bool v).cells.toList = mkL (stL a n (s + 1)) := by
  rw [mkL_putv (by rw [stL_len]; exact h) ho, stL_step hv]
theorem stL_on {a : Au} {n s : Nat} {q : Int} (h0 : 0 ≤ q) (h1 : q.toNat < n) (h2 : q.toNat < s) : onL (stL a n s) q = stayA a q := by
  rw [onL_get rfl (by rw [stL_len]; exact h1)]
  simp only [stL, List.getElem_map, List.getElem_range]
  rw [decide_eq_true h2, Int.toNat_of_nonneg h0, Bool.true_and]
theorem all_congr {f g : Int → Bool} : ∀ {qs : List Int}, (∀ q ∈ qs, f q = g q) → qs.all f = qs.all g
  | [], _ => rfl
  | q :: qs, h => by rw [List.all_cons, List.all_cons, h q List.mem_cons_self, all_congr fun x hx => h x (List.mem_cons_of_mem _ hx)]
def toR (a : Au) (s : Nat) (x : Nat) : Int := if x < s then ((cntN a x : Nat) : Int) else 0
theorem toR_zero (a : Au) : toR a 0 = fun _ => 0 := by funext x; simp [toR]
theorem toR_step (a : Au) (s x : Nat) : toR a (s + 1) x = if x = s then ((cntN a s : Nat) : Int) else toR a s x := by
  unfold toR
  by_cases e : x = s
  · subst e; rw [if_pos (by omega), if_pos rfl]
  · rw [if_neg e]
    by_cases h2 : x < s
    · rw [if_pos (by omega), if_pos h2]
    · rw [if_neg (by omega), if_neg h2]
theorem toR_full {a : Au} {n : Nat} {q : Int} (h : q.toNat < n) : toR a n q.toNat = newA a q := by unfold toR newA; rw [if_pos h]
theorem fold_take {α β : Type} (S : β → α → β) {rs : List α} {i : Nat} (hi : i < rs.length) (m : β) : (rs.take (i + 1)).foldl S m = S ((rs.take i).foldl S m) rs[i] := by
  rw [List.take_succ_eq_append_getElem hi, List.foldl_append]; rfl
theorem come_if {m : List Bool} {r : Rl} (h : r.args.all (onL m) = true) : comeS m r = m.set r.to.toNat true := by unfold comeS; rw [if_pos h]
theorem lead_exit {c m : List Bool} {r : Rl} {k : Nat} (hk : k ≤ r.args.length) (h : k = 0 ∨ (onL m r.to = true ∧ r.args.all (onL c) = true)) (he : k = r.args.length ∨ onL (setsL m (r.args.take k)) r.to = false ∨ r.args.all (onL c) = false) : setsL m (r.args.take k) = leadS c m r := by
  rcases h with h | ⟨h1, h2⟩
  · subst h
    have e0 : setsL m (r.args.take 0) = m := rfl
    rw [e0] at he ⊢
    by_cases hc : onL m r.to = true ∧ r.args.all (onL c) = true
    · rcases he with he | he | he
      · have : r.args = [] := List.eq_nil_of_length_eq_zero he.symm
        rw [lead_do hc.1 hc.2, this]; rfl
      · rw [he] at hc; cases hc.1
      · rw [he] at hc; cases hc.2
    · rw [lead_not hc]
  · have h3 : onL (setsL m (r.args.take k)) r.to = true := (up_sets (r.args.take k) m).le _ h1
    rcases he with he | he | he
    · rw [lead_do h1 h2, he, List.take_length]
    · rw [h3] at he; cases he
    · rw [h2] at he; cases he
theorem lead_on {c m : List Bool} {r : Rl} {k : Nat} (h : k = 0 ∨ (onL m r.to = true ∧ r.args.all (onL c) = true)) (h1 : onL (setsL m (r.args.take k)) r.to = true) (h2 : r.args.all (onL c) = true) : onL m r.to = true ∧ r.args.all (onL c) = true := by
  rcases h with h | h
  · subst h; exact ⟨h1, h2⟩
  · exact h
end Pal
namespace Pal
open Go Go.Proofs Go.Proofs.X
/-- What counting answers: none, where it errs. -/
def numT (a : Au) (t : Tr) : Nat := if askErr a t = 0 then numA a t else 0
theorem numT_trim {a : Au} (h : auErr a = 0) (t : Tr) : numT (normA (trimA a)) t = numT a t := by
  unfold numT
  rw [ask_trim h, numA_norm, num_trim (AuOk.of h)]
theorem numT_at {V : View} {a : Au} {t : Tr} {v : Value} (h1 : askErr a t ≠ 0 → v = natZ) (h2 : askErr a t = 0 → NatAt V v (cntA a t (sortI a.final))) : NatAt V v (numT a t) := by
  unfold numT
  by_cases h : askErr a t = 0
  · rw [if_pos h]; exact h2 h
  · rw [if_neg h, h1 h]; exact ⟨none, 0, 0, rfl, RepN.zero V⟩
theorem numT_le {a : Au} {t : Tr} {u f k : Nat} (hu : a.rules.length ≤ u) (hf : a.final.length ≤ f) (hk : t.size ≤ k) (hp : 0 < u) : numT a t ≤ f * u ^ k := by
  unfold numT
  split
  · exact num_le hu hf hk hp
  · exact Nat.zero_le _
end Pal
