/-
  The subset construction keeps the language, and all its states are reached. Plain Lean, no program. Own work.
-/
import Derived.Test.YtdclodapkhgabaaGreatDoorPalTu
import Derived.Test.YtdclodapkhgabaaGreatDoorPalFo
namespace Pal
open Go Go.Proofs Go.Proofs.X
/-- The states of a tree, as a subset. -/
def setT (a : Au) (t : Tr) : List Int := subL a.states.toNat fun s => decide (0 < t.cnt a.rules (s : Int))
theorem mem_setT {a : Au} {t : Tr} {q : Int} : q ∈ setT a t ↔ (0 ≤ q ∧ q < a.states) ∧ 0 < t.cnt a.rules q := by
  constructor
  · intro h
    obtain ⟨s, hs, rfl⟩ := List.mem_map.1 h
    obtain ⟨h1, h2⟩ := List.mem_filter.1 hs
    have := List.mem_range.1 h1
    exact ⟨by omega, of_decide_eq_true h2⟩
  · rintro ⟨⟨h0, h1⟩, h2⟩
    have := (mem_subL (m := a.states.toNat) (p := fun s => decide (0 < t.cnt a.rules (s : Int))) (s := q.toNat)).2 ⟨by omega, by rw [Int.toNat_of_nonneg h0]; exact decide_eq_true h2⟩
    rwa [Int.toNat_of_nonneg h0] at this
theorem cnts_pos_iff {rs : List Rl} : ∀ {ts : List Tr} {qs : List Int}, 0 < Tr.cnts rs ts qs ↔ ts.length = qs.length ∧ ∀ i (h : i < ts.length), 0 < ts[i].cnt rs (qs.getD i 0)
  | [], [] => by simp [Tr.cnts]
  | [], _ :: _ => by simp [Tr.cnts]
  | _ :: _, [] => by simp [Tr.cnts]
  | t :: ts, q :: qs => by
    rw [Tr.cnts_pos, cnts_pos_iff]
    constructor
    · rintro ⟨h1, h2, h3⟩
      refine ⟨by simp [h2], fun i hi => ?_⟩
      cases i with
      | zero => simpa using h1
      | succ i => simpa using h3 i (by simpa using hi)
    · rintro ⟨h1, h2⟩
      refine ⟨h2 0 (Nat.zero_lt_succ _), by simpa using h1, fun i hi => h2 (i + 1) (Nat.succ_lt_succ hi)⟩
theorem next_set {a : Au} (ha : AuOk a) {s : Int} {ts : List Tr} (hl : ∀ r ∈ a.rules, r.sym = s → r.args.length = ts.length) : refNext a s (ts.map (setT a)) = setT a (.node s ts) := by
  rw [refNext_sub]
  refine subL_congr fun q hq => ?_
  refine Bool.eq_iff_iff.2 ?_
  rw [List.any_eq_true, decide_eq_true_eq, Tr.cnt_pos]
  constructor
  · rintro ⟨r, hr, h⟩
    simp only [fitR, Bool.and_eq_true, decide_eq_true_eq, hasAll, List.all_eq_true, List.mem_range, List.length_map] at h
    refine ⟨r, hr, h.1.1, h.1.2, cnts_pos_iff.2 ⟨(hl r hr h.1.1).symm, fun i hi => ?_⟩⟩
    have h2 := h.2 i hi
    have e : (ts.map (setT a)).getD i [] = setT a ts[i] := by simp [List.getD, hi]
    rw [e] at h2
    exact (mem_setT.1 h2).2
  · rintro ⟨r, hr, h1, h2, h3⟩
    obtain ⟨h4, h5⟩ := cnts_pos_iff.1 h3
    refine ⟨r, hr, ?_⟩
    simp only [fitR, Bool.and_eq_true, decide_eq_true_eq, hasAll, List.all_eq_true, List.mem_range, List.length_map]
    refine ⟨⟨h1, h2⟩, fun i hi => ?_⟩
    have e : (ts.map (setT a)).getD i [] = setT a ts[i] := by simp [List.getD, hi]
    rw [e]
    have hi2 : i < r.args.length := by omega
    have e2 : r.args.getD i 0 = r.args[i] := by simp [List.getD, hi2]
    have h6 := (ha.ru r hr).2.2.2.1 r.args[i] (List.getElem_mem hi2)
    exact mem_setT.2 ⟨by rw [e2]; exact h6, h5 i hi⟩
theorem place_tups {n m : Nat} {xs : List Int} (h : xs ∈ tups n m) : ∃ i, i < (tups n m).length ∧ placeM n xs = (i : Int) ∧ (tups n m)[i]? = some xs := by
  obtain ⟨i, hi, e⟩ := List.getElem_of_mem h
  exact ⟨i, hi, by rw [← e]; exact tups_at hi, by rw [List.getElem?_eq_getElem hi, e]⟩
theorem refFind_in {l : List (List Int)} {s : List Int} (h : s ∈ l) : 0 ≤ refFind l s ∧ refFind l s < l.length ∧ l.getD (refFind l s).toNat [] = s := by
  have h1 := List.idxOf_lt_length_of_mem h
  have e : refFind l s = (l.idxOf s : Int) := if_pos h
  rw [e]
  refine ⟨by omega, by omega, ?_⟩
  rw [Int.toNat_natCast]
  simp [List.getD, idxOf_getElem? h]
theorem from_at {a : Au} {s : Int} {xs : List Int} (h0 : 0 ≤ s ∧ s < a.ranks.length) (hx : xs ∈ tups (refSubs a).length (rankN a s.toNat)) : atM (refFrom a) s xs = refFind (refSubs a) (refNext a s (ofM (refSubs a) xs)) := by
  obtain ⟨i, hi, e1, e2⟩ := place_tups hx
  have hs : s.toNat < a.ranks.length := by omega
  have hacc : (refFrom a).acc.length = (refSubs a).length := by simp [refFrom, refFinal]
  have e3 : (refFrom a).to.getD s.toNat [] = refTo a (refSubs a) s.toNat := by simp [refFrom, List.getD, hs]
  unfold atM
  rw [hacc, e3, e1, Int.toNat_natCast]
  unfold refTo
  have e4 : (tups (refSubs a).length (a.ranks.getD s.toNat 0).toNat)[i]? = some xs := e2
  rw [List.getD_eq_getElem?_getD, List.getElem?_map, e4, Int.toNat_of_nonneg h0.1]
  rfl
theorem node_rank {rk : List Int} {s : Int} {ts : List Tr} (h : Tr.nodesErr rk (.node s ts) = 0) : (0 ≤ s ∧ s < rk.length) ∧ (ts.length : Int) = rk.getD s.toNat 0 ∧ ∀ t ∈ ts, Tr.nodesErr rk t = 0 := Tr.nodesErr_zero.1 h
mutual
theorem run_set {a : Au} (he : auErr a = 0) (h6 : a.states ≤ 6) : ∀ t : Tr, Tr.nodesErr a.ranks t = 0 → (0 ≤ Tr.run (refFrom a) t ∧ Tr.run (refFrom a) t < (refSubs a).length) ∧ (refSubs a).getD (Tr.run (refFrom a) t).toNat [] = setT a t
  | .node s ts, h => by
    obtain ⟨h0, h1, h2⟩ := node_rank h
    have hok := AuOk.of he
    obtain ⟨g1, g2⟩ := runs_set he h6 ts h2
    have hs : s.toNat < a.ranks.length := by omega
    have hlen : (Tr.runs (refFrom a) ts).length = ts.length := by rw [Tr.runs_map, List.length_map]
    have hx : Tr.runs (refFrom a) ts ∈ tups (refSubs a).length (rankN a s.toNat) := mem_tups.2 ⟨by rw [hlen]; unfold rankN; omega, g1⟩
    have hcl := (refSubs_closed he h6).2 s.toNat hs _ hx
    rw [Int.toNat_of_nonneg h0.1] at hcl
    obtain ⟨k1, k2, k3⟩ := refFind_in hcl
    have e : Tr.run (refFrom a) (.node s ts) = refFind (refSubs a) (refNext a s (ofM (refSubs a) (Tr.runs (refFrom a) ts))) := by rw [Tr.run, from_at h0 hx]
    rw [e]
    refine ⟨⟨k1, k2⟩, ?_⟩
    rw [k3, g2]
    refine next_set hok fun r hr e => ?_
    have := (hok.ru r hr).2.2.1
    rw [e] at this
    omega
theorem runs_set {a : Au} (he : auErr a = 0) (h6 : a.states ≤ 6) : ∀ ts : List Tr, (∀ t ∈ ts, Tr.nodesErr a.ranks t = 0) → (∀ x ∈ Tr.runs (refFrom a) ts, 0 ≤ x ∧ x < ((refSubs a).length : Int)) ∧ ofM (refSubs a) (Tr.runs (refFrom a) ts) = ts.map (setT a)
  | [], _ => ⟨fun x hx => (by cases hx), rfl⟩
  | t :: ts, h => by
    obtain ⟨h1, h2⟩ := run_set he h6 t (h t List.mem_cons_self)
    obtain ⟨h3, h4⟩ := runs_set he h6 ts fun u hu => h u (List.mem_cons_of_mem _ hu)
    refine ⟨fun x hx => ?_, ?_⟩
    · rw [Tr.runs] at hx
      rcases List.mem_cons.1 hx with rfl | hx
      · exact h1
      · exact h3 x hx
    · rw [Tr.runs, ofM, List.map_cons, List.map_cons, h2]
      exact congrArg _ h4
end
theorem from_ok {a : Au} (he : auErr a = 0) (h6 : a.states ≤ 6) : DtOk (refFrom a) := by
  have hok := AuOk.of he
  have hrk := ranks_of_auErr he
  obtain ⟨h1, h2⟩ := refSubs_closed he h6
  have h64 := h1.len h6
  have hacc : (refFrom a).acc.length = (refSubs a).length := by simp [refFrom, refFinal]
  have hrow : ∀ s, s < a.ranks.length → (refFrom a).to.getD s [] = refTo a (refSubs a) s := fun s hs => by simp [refFrom, List.getD, hs]
  have hpos : 1 ≤ (refSubs a).length := by
    have h0 : (0 : Int) ∈ a.ranks := by
      unfold ranksErr at hrk
      split at hrk
      · cases hrk
      · split at hrk
        · cases hrk
        · split at hrk
          · cases hrk
          · rename_i h; exact Decidable.not_not.1 h
    obtain ⟨i, hi, e⟩ := List.getElem_of_mem h0
    have hr : rankN a i = 0 := by unfold rankN; simp [List.getD, hi, e]
    have h3 := h2 i hi [] (by rw [hr]; simp [tups])
    exact List.length_pos_of_mem h3
  refine ⟨hrk, by rw [hacc]; omega, by simp [refFrom], fun s hs => ?_, fun x hx q hq => ?_⟩
  · rw [hrow s hs, hacc]
    simp only [refTo, List.length_map, tups_len]
    rfl
  · obtain ⟨s, hs, rfl⟩ := List.mem_map.1 (show x ∈ (List.range a.ranks.length).map (refTo a (refSubs a)) from hx)
    obtain ⟨xs, hxs, rfl⟩ := List.mem_map.1 hq
    obtain ⟨k1, k2, _⟩ := refFind_in (h2 s (List.mem_range.1 hs) xs hxs)
    rw [hacc]
    exact ⟨k1, k2⟩
/-- The language. -/
theorem from_accepts {a : Au} (he : auErr a = 0) (h6 : a.states ≤ 6) (t : Tr) : acceptsM (refFrom a) t = accA a t := by
  have hok := AuOk.of he
  have hd := (from_ok he h6).err
  unfold acceptsM
  rw [if_neg (by rw [hd]; simp)]
  by_cases hv : validErr a.ranks t = 0
  · rw [if_neg (by show ¬ validErr a.ranks t ≠ 0; rw [hv]; simp)]
    obtain ⟨⟨h1, h2⟩, h3⟩ := run_set he h6 t (validErr_zero hv).2
    have hlt : (Tr.run (refFrom a) t).toNat < (refSubs a).length := by omega
    have e : (refFrom a).acc.getD (Tr.run (refFrom a) t).toNat false = ((refSubs a).getD (Tr.run (refFrom a) t).toNat []).any fun x => decide (x ∈ a.final) := by
      show (refFinal a (refSubs a)).getD _ false = _
      simp [refFinal, List.getD, hlt]
    rw [e, h3]
    refine bool_iff ?_
    rw [List.any_eq_true, accA_iff]
    constructor
    · rintro ⟨q, hq, hf⟩
      exact ⟨ask_of he hv, q, of_decide_eq_true hf, (mem_setT.1 hq).2⟩
    · rintro ⟨_, q, hf, hp⟩
      exact ⟨q, mem_setT.2 ⟨hok.fi q hf, hp⟩, decide_eq_true hf⟩
  · rw [if_pos (show validErr (refFrom a).ranks t ≠ 0 from hv)]
    exact (accA_no fun h => hv ((ask_eq he t).symm.trans h)).symm
where
  ask_eq {a : Au} (h : auErr a = 0) (t : Tr) : askErr a t = validErr a.ranks t := by unfold askErr; rw [if_neg (not_not_intro h)]
  ask_of {a : Au} {t : Tr} (h : auErr a = 0) (hv : validErr a.ranks t = 0) : askErr a t = 0 := by unfold askErr; rw [if_neg (not_not_intro h)]; exact hv
/-! ### All states are found -/
def idxs (n : Nat) : List Int := (List.range n).map fun (i : Nat) => (i : Int)
theorem idxs_succ (n : Nat) : idxs (n + 1) = idxs n ++ [(n : Int)] := by simp [idxs, List.range_succ]
theorem idxs_mem {n : Nat} {q : Int} : q ∈ idxs n ↔ 0 ≤ q ∧ q < (n : Int) := by
  simp only [idxs, List.mem_map, List.mem_range]
  constructor
  · rintro ⟨i, hi, rfl⟩; omega
  · intro h; exact ⟨q.toNat, by omega, by omega⟩
theorem idxs_pick {n : Nat} : ∀ {xs : List Int}, (∀ x ∈ xs, 0 ≤ x ∧ x < (n : Int)) → pickD (idxs n) xs = xs
  | [], _ => rfl
  | x :: xs, h => by
    have h1 := h x List.mem_cons_self
    have h2 := idxs_pick (n := n) (xs := xs) fun y hy => h y (List.mem_cons_of_mem _ hy)
    have hx : x.toNat < n := by omega
    show (idxs n).getD x.toNat 0 :: pickD (idxs n) xs = _
    rw [h2]
    congr 1
    simp [idxs, List.getD, hx]
    omega
theorem step_pre (a : Au) (s : Int) (out : List (List Int)) (xs : List Int) : out <+: refStep a s out xs := by
  unfold refStep; split
  · exact List.prefix_refl _
  · exact List.prefix_append _ _
theorem steps_pre (a : Au) (s : Int) : ∀ (xss : List (List Int)) (out : List (List Int)), out <+: refSteps a s xss out
  | [], out => List.prefix_refl _
  | xs :: xss, out => (step_pre a s out xs).trans (steps_pre a s xss (refStep a s out xs))
theorem syms_pre (a : Au) (was : Nat) : ∀ (rs : List Int) (s : Int) (out : List (List Int)), out <+: refSyms a was rs s out
  | [], _, out => List.prefix_refl _
  | r :: rs, s, out => (steps_pre a s _ out).trans (syms_pre a was rs (s + 1) _)
theorem rounds_pre (a : Au) : ∀ (f : Nat) (was : Int) (out : List (List Int)), out <+: refRounds a f was out
  | 0, _, out => List.prefix_refl _
  | f + 1, was, out => by
    rw [refRounds]; split
    · exact (syms_pre a _ _ _ out).trans (rounds_pre a f _ _)
    · exact List.prefix_refl _
theorem ofM_pre {out R : List (List Int)} (h : out <+: R) : ∀ {xs : List Int}, (∀ x ∈ xs, 0 ≤ x ∧ x < (out.length : Int)) → ofM R xs = ofM out xs
  | [], _ => rfl
  | x :: xs, hx => by
    have h1 := hx x List.mem_cons_self
    have h2 := ofM_pre h (xs := xs) fun y hy => hx y (List.mem_cons_of_mem _ hy)
    have hlt : x.toNat < out.length := by omega
    show R.getD x.toNat [] :: ofM R xs = out.getD x.toNat [] :: ofM out xs
    rw [h2]
    congr 1
    obtain ⟨T, rfl⟩ := h
    simp [List.getD, List.getElem?_append_left hlt]
theorem pre_idx {out R : List (List Int)} (hn : R.Nodup) (h : out <+: R) {x : List Int} (hx : x ∈ R) : ((R.idxOf x : Int) ∈ idxs out.length ↔ x ∈ out) := by
  obtain ⟨T, rfl⟩ := h
  rw [idxs_mem]
  by_cases hin : x ∈ out
  · have h1 := List.idxOf_lt_length_of_mem hin
    rw [List.idxOf_append, if_pos hin]
    exact ⟨fun _ => hin, fun _ => by omega⟩
  · have h1 : (out ++ T).idxOf x = out.length + T.idxOf x := by rw [List.idxOf_append, if_neg hin]; omega
    rw [h1]
    exact ⟨fun h => by omega, fun h => absurd h hin⟩
theorem sim_step {a : Au} (he : auErr a = 0) (h6 : a.states ≤ 6) {s : Nat} (hs : s < a.ranks.length) {out : List (List Int)} {xs : List Int} (hx : ∀ x ∈ xs, 0 ≤ x ∧ x < (out.length : Int)) (hl : xs.length = rankN a s) (hp : refStep a (s : Int) out xs <+: refSubs a) :
    stepD (refFrom a) (s : Int) (idxs out.length) xs = idxs (refStep a (s : Int) out xs).length := by
  obtain ⟨h1, h2⟩ := refSubs_closed he h6
  have hpo := (step_pre a (s : Int) out xs).trans hp
  have hle := hpo.length_le
  have hx2 : xs ∈ tups (refSubs a).length (rankN a s) := mem_tups.2 ⟨hl, fun x hxx => by have := hx x hxx; omega⟩
  have hin := h2 s hs xs hx2
  have hat : atM (refFrom a) (s : Int) xs = ((refSubs a).idxOf (refNext a (s : Int) (ofM out xs)) : Int) := by
    rw [from_at ⟨by omega, by omega⟩ (by rw [Int.toNat_natCast]; exact hx2), ofM_pre hpo hx]
    rw [ofM_pre hpo hx] at hin
    exact if_pos hin
  rw [ofM_pre hpo hx] at hin
  have hiff := pre_idx h1.nd hpo hin
  unfold stepD
  rw [idxs_pick hx, hat]
  by_cases hm : refNext a (s : Int) (ofM out xs) ∈ out
  · have e : refStep a (s : Int) out xs = out := by unfold refStep; rw [if_pos hm]
    rw [if_pos (hiff.2 hm), e]
  · have e : refStep a (s : Int) out xs = out ++ [refNext a (s : Int) (ofM out xs)] := by unfold refStep; rw [if_neg hm]
    rw [e] at hp
    rw [if_neg (fun h => hm (hiff.1 h)), e, List.length_append, List.length_cons, List.length_nil, Nat.zero_add, idxs_succ]
    congr 2
    obtain ⟨T, hT⟩ := hp
    rw [← hT, List.append_assoc, List.idxOf_append, if_neg hm]
    simp
theorem sim_steps {a : Au} (he : auErr a = 0) (h6 : a.states ≤ 6) {s : Nat} (hs : s < a.ranks.length) : ∀ (xss : List (List Int)) (out : List (List Int)), (∀ xs ∈ xss, xs.length = rankN a s ∧ ∀ x ∈ xs, 0 ≤ x ∧ x < (out.length : Int)) → refSteps a (s : Int) xss out <+: refSubs a →
    stepsD (refFrom a) (s : Int) xss (idxs out.length) = idxs (refSteps a (s : Int) xss out).length
  | [], _, _, _ => rfl
  | xs :: xss, out, h, hp => by
    obtain ⟨h1, h2⟩ := h xs List.mem_cons_self
    have hp1 : refStep a (s : Int) out xs <+: refSubs a := (steps_pre a (s : Int) xss _).trans hp
    show stepsD (refFrom a) (s : Int) xss (stepD (refFrom a) (s : Int) (idxs out.length) xs) = _
    rw [sim_step he h6 hs h2 h1 hp1]
    refine sim_steps he h6 hs xss _ (fun ys hy => ⟨(h ys (List.mem_cons_of_mem _ hy)).1, fun x hx => ?_⟩) hp
    have h3 := (h ys (List.mem_cons_of_mem _ hy)).2 x hx
    have h4 := refStep_len a (s : Int) out xs
    omega
theorem sim_syms {a : Au} (he : auErr a = 0) (h6 : a.states ≤ 6) (was : Nat) : ∀ (rs : List Int) (s : Nat) (out : List (List Int)), rs = a.ranks.drop s → was ≤ out.length → refSyms a was rs (s : Int) out <+: refSubs a →
    symsD (refFrom a) was rs (s : Int) (idxs out.length) = idxs (refSyms a was rs (s : Int) out).length
  | [], _, _, _, _, _ => rfl
  | r :: rs, s, out, hr, hw, hp => by
    have hs : s < a.ranks.length := by
      have := congrArg List.length hr
      simp at this; omega
    rw [List.drop_eq_getElem_cons hs] at hr
    obtain ⟨e1, e2⟩ := List.cons.inj hr
    have hp1 : refSteps a (s : Int) (tups was r.toNat) out <+: refSubs a := (syms_pre a was rs ((s : Int) + 1) _).trans hp
    have hrk : rankN a s = r.toNat := by unfold rankN; rw [e1]; simp [List.getD, hs]
    rw [symsD, refSyms, sim_steps he h6 hs _ out (fun xs hx => by
      obtain ⟨k1, k2⟩ := mem_tups.1 hx
      exact ⟨by rw [hrk]; exact k1, fun x hxx => by have := k2 x hxx; omega⟩) hp1]
    have h3 := (steps_pre a (s : Int) (tups was r.toNat) out).length_le
    exact sim_syms he h6 was rs (s + 1) _ e2 (by omega) hp
theorem sim_rounds {a : Au} (he : auErr a = 0) (h6 : a.states ≤ 6) : ∀ (f : Nat) (was : Int) (out : List (List Int)), refRounds a f was out <+: refSubs a → roundsD (refFrom a) f was (idxs out.length) = idxs (refRounds a f was out).length
  | 0, _, _, _ => rfl
  | f + 1, was, out, hp => by
    have hl : (idxs out.length).length = out.length := by simp [idxs]
    rw [roundsD, refRounds, hl] at *
    by_cases h : was < (out.length : Int)
    · rw [if_pos h] at hp ⊢
      rw [if_pos h]
      have hp1 : refSyms a out.length a.ranks 0 out <+: refSubs a := (rounds_pre a f _ _).trans hp
      have e := sim_syms he h6 out.length a.ranks 0 out rfl (Nat.le_refl _) hp1
      have e' : symsD (refFrom a) out.length (refFrom a).ranks 0 (idxs out.length) = idxs (refSyms a out.length a.ranks 0 out).length := e
      rw [e']
      exact sim_rounds he h6 f _ _ hp
    · rw [if_neg h, if_neg h]
theorem found_all {a : Au} (he : auErr a = 0) (h6 : a.states ≤ 6) : foundD (refFrom a) = idxs (refSubs a).length :=
  sim_rounds he h6 130 (-1) [] (List.prefix_refl _)
end Pal
namespace Pal
open Go Go.Proofs Go.Proofs.X
def reachB (d : Dt) : List Bool := (List.range d.acc.length).map fun (q : Nat) => decide ((q : Int) ∈ foundD d)
theorem reachB_len (d : Dt) : (reachB d).length = d.acc.length := by simp [reachB]
theorem reachB_marks (d : Dt) : (marks d.acc.length (foundD d)).toList = bools (reachB d) := by simp [marks, bools, reachB]
theorem reachB_all {a : Au} (he : auErr a = 0) (h6 : a.states ≤ 6) {k : Nat} (hk : k < (reachB (refFrom a)).length) : (reachB (refFrom a))[k] = true := by
  have hacc : (refFrom a).acc.length = (refSubs a).length := by simp [refFrom, refFinal]
  have hk2 : k < (refSubs a).length := by rw [reachB_len, hacc] at hk; exact hk
  have h1 : ((k : Nat) : Int) ∈ foundD (refFrom a) := by rw [found_all he h6]; exact idxs_mem.2 ⟨by omega, by omega⟩
  simp only [reachB, List.getElem_map, List.getElem_range]
  exact decide_eq_true h1
theorem from_bounds {a : Au} (he : auErr a = 0) (h6 : a.states ≤ 6) (h8 : a.ranks.length ≤ 8) : (refFrom a).acc.length ≤ 64 ∧ (refFrom a).ranks.length ≤ 1048576 ∧ (refFrom a).acc.length ≤ 1048576 ∧ (refFrom a).to.length ≤ 1048576 ∧ ∀ x ∈ (refFrom a).to, x.length ≤ 1048576 := by
  have hok := from_ok he h6
  have hacc : (refFrom a).acc.length = (refSubs a).length := by simp [refFrom, refFinal]
  have h64 := (refSubs_closed he h6).1.len h6
  have hrk : (refFrom a).ranks = a.ranks := rfl
  refine ⟨by omega, by rw [hrk]; omega, by omega, by rw [hok.tl, hrk]; omega, fun x hx => ?_⟩
  obtain ⟨s, hs, rfl⟩ := List.getElem_of_mem hx
  have hs2 : s < (refFrom a).ranks.length := by rw [← hok.tl]; exact hs
  have h1 := hok.w s hs2
  have e : (refFrom a).to.getD s [] = (refFrom a).to[s] := by simp [List.getD, hs]
  have hr := (ranksErr_ok hok.rk).2 s hs2
  have e2 : (refFrom a).ranks.getD s 0 = (refFrom a).ranks[s] := by simp [List.getD, hs2]
  rw [e, e2] at h1
  rw [h1]
  exact Nat.le_trans (pow_le2 (k := (refFrom a).acc.length) (by omega) (by omega)) (by decide)
theorem from_cons {a : Au} (he : auErr a = 0) (h6 : a.states ≤ 6) : ∃ st, consM a 64 = (0, some st) ∧ fromM a st = refFrom a := by
  obtain ⟨E, o, hc, hall⟩ := cons_ways a 64 h6
  have h64 := (refSubs_closed he h6).1.len h6
  rcases hall with ⟨h, _, _⟩ | ⟨_, hm, _⟩ | ⟨_, _, hlt, _⟩ | ⟨_, _, _, rfl, st, rfl, _, hst2⟩
  · exact absurd he h
  · omega
  · omega
  · exact ⟨st, hc, hst2⟩
end Pal
