/-
  The program's subset construction is the reference's: steps, rounds, the whole. Own work. No statement of the seat is proved here.
-/
import Derived.Test.YtdclodapkhgabaaGreatDoorPalZ
namespace Pal
open Go
def rankN (a : Au) (s : Nat) : Nat := (a.ranks.getD s 0).toNat
/-- A tuple of operands for symbol s below n subsets. -/
def Fits (a : Au) (s n : Nat) (args : List Int) : Prop := s < a.ranks.length ∧ args.length = rankN a s ∧ ∀ x ∈ args, 0 ≤ x ∧ x < (n : Int)
theorem Fits.rank {a : Au} (haok : AuOk a) {s n : Nat} {args : List Int} (h : Fits a s n args) : args.length ≤ 2 ∧ ∀ r ∈ a.rules, r.sym = (s : Int) → r.args.length = args.length := by
  obtain ⟨h1, h2, _⟩ := h
  have h3 := haok.rk s h1
  have h4 : a.ranks.getD s 0 = a.ranks[s] := by simp [List.getD, h1]
  refine ⟨?_, fun r hr hs => ?_⟩
  · rw [h2, rankN, h4]; omega
  · have h5 := (haok.ru r hr).2.2.1
    rw [hs, Int.toNat_natCast] at h5
    rw [h2, rankN, ← h5]
    omega
theorem Fits.mono {a : Au} {s n m : Nat} {args : List Int} (h : Fits a s n args) (hnm : n ≤ m) : Fits a s m args := ⟨h.1, h.2.1, fun x hx => by have := h.2.2 x hx; omega⟩
theorem keyM_inj {s s' : Nat} {x y : List Int} (h : keyM s x = keyM s' y) : s = s' ∧ (x.length = y.length → x.length ≤ 2 → x = y) := by
  simp only [keyM, Prod.mk.injEq] at h
  obtain ⟨h1, h2, h3⟩ := h
  refine ⟨by omega, fun hl hl2 => ?_⟩
  match x, y, hl, hl2 with
  | [], [], _, _ => rfl
  | [a], [b], _, _ => simp at h2; rw [h2]
  | [a, b], [c, d], _, _ => simp at h2 h3; rw [h2, h3]
  | _ :: _ :: _ :: _, _, _, h => simp at h
/-- What the results say. -/
def ResOk (a : Au) (st : DS) : Prop := ∀ p ∈ st.res, ∃ (s : Nat) (args : List Int), p.1 = keyM (s : Int) args ∧ Fits a s st.subs.length args ∧ 0 ≤ p.2 ∧ st.subs[p.2.toNat]? = some (succM a st.subs s args)
theorem fits_append {subs : List Nat} (t : List Nat) {args fr : List Int} (h : ∀ x ∈ args, 0 ≤ x ∧ x < (subs.length : Int)) : ∀ {m : Nat}, m ≤ args.length → fitsTo (subs ++ t) args fr m = fitsTo subs args fr m
  | 0, _ => rfl
  | m + 1, hm => by
    have hx := h _ (List.getElem_mem (show m < args.length by omega))
    have hg : args.getD m 0 = args[m] := by simp [List.getD, show m < args.length by omega]
    have hs : (subs ++ t).getD (args.getD m 0).toNat 0 = subs.getD (args.getD m 0).toNat 0 := by
      rw [hg, List.getD_eq_getElem?_getD, List.getD_eq_getElem?_getD, List.getElem?_append_left (by omega)]
    simp only [fitsTo, fits_append t h (m := m) (by omega), hs]
theorem succM_app {a : Au} (haok : AuOk a) {s : Nat} {subs : List Nat} (t : List Nat) {args : List Int} (h : Fits a s subs.length args) : succM a (subs ++ t) s args = succM a subs s args := by
  have hr := (h.rank haok).2
  unfold succM
  have key : ∀ (rs : List Rl), (∀ r ∈ rs, r.args.length = args.length) → ∀ k, succTo (subs ++ t) args rs k = succTo subs args rs k := by
    intro rs hrs k
    induction k with
    | zero => rfl
    | succ k ih =>
      simp only [succTo, ih]
      cases hk : rs[k]? with
      | none => rfl
      | some r =>
        have hm := hrs r (List.mem_of_getElem? hk)
        simp only [fits_append t h.2.2 (show r.args.length ≤ args.length by omega)]
  exact key _ (fun r hr2 => hr r (rulesOf_mem hr2).1 (rulesOf_mem hr2).2) _
theorem succM_big (a : Au) (subs : List Nat) (sym : Int) (args : List Int) : succM a subs sym args < big := succTo_big _ _ _ _
theorem mem_map_els {subs : List Nat} (hb : ∀ s ∈ subs, s < big) {s : Nat} (hs : s < big) : els s ∈ subs.map els ↔ s ∈ subs := by
  constructor
  · intro h
    obtain ⟨t, ht, he⟩ := List.mem_map.1 h
    exact els_inj (hb t ht) hs he ▸ ht
  · exact fun h => List.mem_map_of_mem h
theorem lookM_key {res : List ((Int × Int × Int) × Int)} {k : Int × Int × Int} {n : Int} (h : lookM res k = some n) : ∃ p ∈ res, p.1 = k ∧ p.2 = n := by
  unfold lookM at h
  obtain ⟨p, hp, rfl⟩ := Option.map_eq_some_iff.1 h
  exact ⟨p, List.mem_of_find?_eq_some hp, by simpa using List.find?_some hp, rfl⟩
def KeyIn (st : DS) (s : Nat) (args : List Int) : Prop := ∃ n, lookM st.res (keyM (s : Int) args) = some n
def KeysLe (st st' : DS) : Prop := ∀ k n, lookM st.res k = some n → lookM st'.res k = some n
theorem KeysLe.refl (st : DS) : KeysLe st st := fun _ _ h => h
theorem KeysLe.trans {a b c : DS} (h : KeysLe a b) (k : KeysLe b c) : KeysLe a c := fun x n hx => k x n (h x n hx)
theorem lookM_app {res : List ((Int × Int × Int) × Int)} {k k' : Int × Int × Int} {n m : Int} (h : lookM res k = some n) : lookM (res ++ [(k', m)]) k = some n := by
  unfold lookM at h ⊢
  rw [List.find?_append]
  cases hf : res.find? (fun p => decide (p.1 = k)) with
  | none => rw [hf] at h; cases h
  | some p => rw [hf] at h; simpa using h
theorem lookM_new {res : List ((Int × Int × Int) × Int)} {k : Int × Int × Int} {m : Int} (h : lookM res k = none) : lookM (res ++ [(k, m)]) k = some m := by
  unfold lookM at h ⊢
  rw [List.find?_append]
  cases hf : res.find? (fun p => decide (p.1 = k)) with
  | none => simp
  | some p => rw [hf] at h; cases h
structure Good (a : Au) (limit : Int) (st : DS) : Prop where
  inv : st.Inv limit
  res : ResOk a st
/-- Done, as the reference does it; or the limit is too small for what the reference finds. -/
def Did (a : Au) (limit : Int) (st : DS) (r : Option DS) (ref : List (List Int)) (K : DS → Prop) : Prop :=
  (∃ st', r = some st' ∧ Good a limit st' ∧ st'.subs.map els = ref ∧ KeysLe st st' ∧ K st' ∧ st.subs.length ≤ st'.subs.length) ∨ (r = none ∧ limit < (ref.length : Int))
theorem idxOf_getElem? {α : Type} [BEq α] [LawfulBEq α] {l : List α} {x : α} (h : x ∈ l) : l[l.idxOf x]? = some x := by
  have := List.idxOf_lt_length_of_mem h
  rw [List.getElem?_eq_getElem this]
  simp
theorem addM_ref {a : Au} (haok : AuOk a) {limit : Int} (hlm : limit ≤ 1048576) {st : DS} (hg : Good a limit st) {s : Nat} {args : List Int} (hf : Fits a s st.subs.length args) :
    Did a limit st (addM a limit s st args) (refStep a s (st.subs.map els) args) fun st' => KeyIn st' s args := by
  obtain ⟨hl2, hrl⟩ := hf.rank haok
  have hsucc := els_succ haok (subs := st.subs) hrl
  have hsb := succM_big a st.subs s args
  have hmem := mem_map_els hg.inv.bg hsb
  have hsi : i64ok (s : Int) := by
    have := hf.1
    have := haok.rl
    simp only [i64ok]; omega
  have hai : ∀ x ∈ args, i64ok x := by
    intro x hx
    have h1 := hf.2.2 x hx
    have h2 := hg.inv.le
    simp only [i64ok]; omega
  unfold refStep
  rw [← hsucc]
  cases hlk : lookM st.res (keyM (s : Int) args) with
  | some n =>
    have hadd : addM a limit s st args = some st := by simp [addM, hlk]
    obtain ⟨p, hp, hk, _⟩ := lookM_key hlk
    obtain ⟨s', args', hk', hf', h0, hsub⟩ := hg.res p hp
    obtain ⟨hs, ha⟩ := keyM_inj (hk.symm.trans hk')
    subst hs
    have hargs : args = args' := ha (by rw [hf.2.1, hf'.2.1]) hl2
    subst hargs
    rw [if_pos (hmem.2 (List.mem_of_getElem? hsub)), hadd]
    exact .inl ⟨st, rfl, hg, rfl, KeysLe.refl st, ⟨n, hlk⟩, Nat.le_refl _⟩
  | none =>
    by_cases hm : succM a st.subs s args ∈ st.subs
    · have hnum : numM st.subs (succM a st.subs s args) = some ((st.subs.idxOf (succM a st.subs s args) : Nat) : Int) := by simp [numM, hm]
      have hadd : addM a limit s st args = some ⟨st.subs, st.res ++ [(keyM s args, ((st.subs.idxOf (succM a st.subs s args) : Nat) : Int))]⟩ := by simp [addM, hlk, hnum]
      rw [if_pos (hmem.2 hm), hadd]
      refine .inl ⟨_, rfl, ⟨addM_inv hg.inv hsi hai hadd, ?_⟩, rfl, fun k n h => lookM_app h, ⟨_, lookM_new hlk⟩, Nat.le_refl _⟩
      intro p hp
      rcases List.mem_append.1 hp with hp | hp
      · exact hg.res p hp
      · simp at hp
        subst hp
        exact ⟨s, args, rfl, hf, by simp, by simpa using idxOf_getElem? hm⟩
    · have hnum : numM st.subs (succM a st.subs s args) = none := by simp [numM, hm]
      rw [if_neg (fun h => hm (hmem.1 h))]
      by_cases hlim : (st.subs.length : Int) = limit
      · have hadd : addM a limit s st args = none := by simp [addM, hlk, hnum, hlim]
        exact .inr ⟨hadd, by simp; omega⟩
      · have hadd : addM a limit s st args = some ⟨st.subs ++ [succM a st.subs s args], st.res ++ [(keyM s args, (st.subs.length : Int))]⟩ := by simp [addM, hlk, hnum, hlim]
        rw [hadd]
        refine .inl ⟨_, rfl, ⟨addM_inv hg.inv hsi hai hadd, ?_⟩, by simp, fun k n h => lookM_app h, ⟨_, lookM_new hlk⟩, by simp⟩
        intro p hp
        dsimp only at hp ⊢
        rcases List.mem_append.1 hp with hp | hp
        · obtain ⟨s', args', h1, h2, h3, h4⟩ := hg.res p hp
          refine ⟨s', args', h1, h2.mono (by rw [List.length_append]; omega), h3, ?_⟩
          rw [succM_app haok _ h2, ← h4]
          exact List.getElem?_append_left (List.getElem?_eq_some_iff.1 h4).1
        · simp at hp
          subst hp
          refine ⟨s, args, rfl, hf.mono (by rw [List.length_append]; omega), by simp, ?_⟩
          rw [succM_app haok _ hf]
          simp
theorem refSteps_len (a : Au) (sym : Int) : ∀ (xss : List (List Int)) (out : List (List Int)), out.length ≤ (refSteps a sym xss out).length
  | [], _ => Nat.le_refl _
  | x :: xs, out => Nat.le_trans (refStep_len a sym out x) (refSteps_len a sym xs _)
theorem refSyms_len (a : Au) (was : Nat) : ∀ (rs : List Int) (sym : Int) (out : List (List Int)), out.length ≤ (refSyms a was rs sym out).length
  | [], _, _ => Nat.le_refl _
  | _ :: rs, sym, out => Nat.le_trans (refSteps_len a sym _ out) (refSyms_len a was rs (sym + 1) _)
theorem refRounds_len (a : Au) : ∀ (f : Nat) (was : Int) (out : List (List Int)), out.length ≤ (refRounds a f was out).length
  | 0, _, _ => Nat.le_refl _
  | f + 1, was, out => by
    rw [refRounds]
    split
    · exact Nat.le_trans (refSyms_len a _ _ _ out) (refRounds_len a f _ _)
    · exact Nat.le_refl _
theorem RefOk.step {a : Au} {out : List (List Int)} (h : RefOk a out) (sym : Int) (xs : List Int) : RefOk a (refStep a sym out xs) := by
  unfold refStep
  split
  · exact h
  · rename_i hn; exact h.snoc hn
theorem RefOk.steps {a : Au} (sym : Int) : ∀ (xss : List (List Int)) {out : List (List Int)}, RefOk a out → RefOk a (refSteps a sym xss out)
  | [], _, h => h
  | x :: xs, _, h => RefOk.steps sym xs (h.step sym x)
theorem RefOk.syms {a : Au} (was : Nat) : ∀ (rs : List Int) (sym : Int) {out : List (List Int)}, RefOk a out → RefOk a (refSyms a was rs sym out)
  | [], _, _, h => h
  | _ :: rs, sym, _, h => RefOk.syms was rs (sym + 1) (h.steps sym _)
theorem RefOk.rounds {a : Au} : ∀ (f : Nat) (was : Int) {out : List (List Int)}, RefOk a out → RefOk a (refRounds a f was out)
  | 0, _, _, h => h
  | f + 1, was, out, h => by
    rw [refRounds]
    split
    · exact RefOk.rounds f _ (h.syms _ _ _)
    · exact h
theorem addsM_ref {a : Au} (haok : AuOk a) {limit : Int} (hlm : limit ≤ 1048576) {s : Nat} : ∀ {xss : List (List Int)} {st : DS}, Good a limit st → (∀ x ∈ xss, Fits a s st.subs.length x) →
    Did a limit st (addsM a limit s xss st) (refSteps a s xss (st.subs.map els)) fun st' => ∀ x ∈ xss, KeyIn st' s x
  | [], st, hg, _ => .inl ⟨st, rfl, hg, rfl, KeysLe.refl st, by simp, Nat.le_refl _⟩
  | x :: xs, st, hg, hf => by
    rcases addM_ref haok hlm hg (hf x (by simp)) with ⟨st1, h1, hg1, he1, hk1, hx1, hl1⟩ | ⟨h1, h2⟩
    · have hf1 : ∀ y ∈ xs, Fits a s st1.subs.length y := fun y hy => (hf y (by simp [hy])).mono hl1
      rcases addsM_ref haok hlm hg1 hf1 with ⟨st2, h2, hg2, he2, hk2, hx2, hl2⟩ | ⟨h2, h3⟩
      · refine .inl ⟨st2, by simp [addsM, h1, h2], hg2, by rw [he2, he1]; rfl, hk1.trans hk2, ?_, Nat.le_trans hl1 hl2⟩
        intro y hy
        rcases List.mem_cons.1 hy with rfl | hy
        · obtain ⟨n, hn⟩ := hx1; exact ⟨n, hk2 _ _ hn⟩
        · exact hx2 y hy
      · exact .inr ⟨by simp [addsM, h1, h2], by rw [he1] at h3; exact h3⟩
    · refine .inr ⟨by simp [addsM, h1], ?_⟩
      have := refSteps_len a s xs (refStep a s (st.subs.map els) x)
      have he : refSteps a s (x :: xs) (st.subs.map els) = refSteps a s xs (refStep a s (st.subs.map els) x) := rfl
      rw [he]; omega
theorem roundM_ref {a : Au} (haok : AuOk a) {limit : Int} (hlm : limit ≤ 1048576) {was : Nat} : ∀ {rs : List Int} {s : Nat} {st : DS}, rs = a.ranks.drop s → Good a limit st → was ≤ st.subs.length →
    Did a limit st (roundM a limit was rs s st) (refSyms a was rs s (st.subs.map els)) fun st' => ∀ t, s ≤ t → t < a.ranks.length → ∀ x ∈ tups was (rankN a t), KeyIn st' t x
  | [], s, st, hrs, hg, _ => by
    refine .inl ⟨st, rfl, hg, rfl, KeysLe.refl st, ?_, Nat.le_refl _⟩
    intro t h1 h2
    have h3 := congrArg List.length hrs
    simp at h3; omega
  | r :: rs, s, st, hrs, hg, hw => by
    have hs : s < a.ranks.length := by
      have h3 := congrArg List.length hrs
      simp at h3; omega
    rw [List.drop_eq_getElem_cons hs] at hrs
    simp only [List.cons.injEq] at hrs
    obtain ⟨hr, hrs⟩ := hrs
    have hrk : rankN a s = r.toNat := by simp [rankN, List.getD, hs, hr]
    have hfit : ∀ x ∈ tups was r.toNat, Fits a s st.subs.length x := by
      intro x hx
      obtain ⟨h1, h2⟩ := tups_item hx
      exact ⟨hs, by rw [h1, hrk], fun y hy => by have := h2 y hy; omega⟩
    have hstep := addsM_ref haok hlm (s := s) hg hfit
    have hsym : ((s : Int) + 1) = ((s + 1 : Nat) : Int) := by omega
    rcases hstep with ⟨st1, h1, hg1, he1, hk1, hx1, hl1⟩ | ⟨h1, h2⟩
    · rcases roundM_ref haok hlm (s := s + 1) hrs hg1 (Nat.le_trans hw hl1) with ⟨st2, h2, hg2, he2, hk2, hx2, hl2⟩ | ⟨h2, h3⟩
      · refine .inl ⟨st2, by rw [roundM, ext_nil, h1, hsym]; exact h2, hg2, by rw [refSyms, ← he1, hsym]; exact he2, hk1.trans hk2, ?_, Nat.le_trans hl1 hl2⟩
        intro t ht1 ht2 x hx
        by_cases e : t = s
        · subst e
          rw [hrk] at hx
          obtain ⟨n, hn⟩ := hx1 x hx
          exact ⟨n, hk2 _ _ hn⟩
        · exact hx2 t (by omega) ht2 x hx
      · exact .inr ⟨by rw [roundM, ext_nil, h1, hsym]; exact h2, by rw [refSyms, ← he1, hsym]; exact h3⟩
    · refine .inr ⟨by rw [roundM, ext_nil, h1]; rfl, ?_⟩
      have := refSyms_len a was rs ((s : Int) + 1) (refSteps a s (tups was r.toNat) (st.subs.map els))
      rw [refSyms]; omega
theorem buildM_ref {a : Au} (haok : AuOk a) {limit : Int} (hlm : limit ≤ 1048576) : ∀ {f F : Nat} {was : Int} {st : DS}, Good a limit st → limit - st.subs.length < f → was < st.subs.length → (64 : Int) - was < F → (st.subs.length : Int) ≤ 64 → RefOk a (st.subs.map els) → a.states ≤ 6 →
    Did a limit st (buildM a limit f st) (refRounds a F was (st.subs.map els)) fun st' => ∀ t, t < a.ranks.length → ∀ x ∈ tups st'.subs.length (rankN a t), KeyIn st' t x
  | 0, _, _, st, hg, hf, _, _, _, _, _ => by have := hg.inv.le; omega
  | f + 1, 0, _, _, _, _, hw, hF, h64, _, _ => by omega
  | f + 1, F + 1, was, st, hg, hf, hw, hF, h64, hro, h6 => by
    have hlen : (st.subs.map els).length = st.subs.length := List.length_map ..
    have hR : refRounds a (F + 1) was (st.subs.map els) = refRounds a F st.subs.length (refSyms a st.subs.length a.ranks 0 (st.subs.map els)) := by
      rw [refRounds, hlen, if_pos hw]
    rcases roundM_ref haok hlm (was := st.subs.length) (s := 0) (rs := a.ranks) rfl hg (Nat.le_refl _) with ⟨st1, h1, hg1, he1, hk1, hx1, hl1⟩ | ⟨h1, h2⟩
    · have h1' : roundM a limit st.subs.length a.ranks 0 st = some st1 := h1
      have he1' : st1.subs.map els = refSyms a st.subs.length a.ranks 0 (st.subs.map els) := he1
      have hlen1 : (st1.subs.map els).length = st1.subs.length := List.length_map ..
      by_cases hsame : st1.subs.length = st.subs.length
      · refine .inl ⟨st1, by rw [buildM, h1']; simp [hsame], hg1, ?_, hk1, ?_, hl1⟩
        · rw [hR, ← he1']
          cases F with
          | zero => rfl
          | succ F => rw [refRounds, hlen1, if_neg (by omega)]
        · intro t ht x hx
          rw [hsame] at hx
          exact hx1 t (Nat.zero_le _) ht x hx
      · have hro1 : RefOk a (st1.subs.map els) := by
          rw [he1']
          exact hro.syms _ _ _
        have h641 := hro1.len h6
        rcases buildM_ref haok hlm (f := f) (F := F) (was := st.subs.length) hg1 (by omega) (by omega) (by omega) (by omega) hro1 h6 with ⟨st2, h2, hg2, he2, hk2, hx2, hl2⟩ | ⟨h2, h3⟩
        · exact .inl ⟨st2, by rw [buildM, h1']; simp [hsame, h2], hg2, by rw [hR, ← he1']; exact he2, hk1.trans hk2, hx2, Nat.le_trans hl1 hl2⟩
        · exact .inr ⟨by rw [buildM, h1']; simp [hsame, h2], by rw [hR, ← he1']; exact h3⟩
    · have h1' : roundM a limit st.subs.length a.ranks 0 st = none := h1
      refine .inr ⟨by rw [buildM, h1']; rfl, ?_⟩
      have := refRounds_len a F (st.subs.length : Int) (refSyms a st.subs.length a.ranks 0 (st.subs.map els))
      rw [hR]
      have h2' : limit < ((refSyms a st.subs.length a.ranks 0 (st.subs.map els)).length : Int) := h2
      omega
theorem and_els {s : Nat} (hs : s < big) (xs : List Int) : (!decide (s &&& ofL xs = 0)) = (els s).any fun x => decide (x ∈ xs) := by
  rw [Bool.eq_iff_iff]
  simp only [Bool.not_eq_true', decide_eq_false_iff_not, List.any_eq_true, decide_eq_true_eq]
  constructor
  · intro h
    obtain ⟨j, hj, hb⟩ := exists_bit h (show s &&& ofL xs < 2 ^ kBits from big_eq ▸ and_big _ hs)
    rw [Nat.testBit_and, ofL_testBit, Bool.and_eq_true, decide_eq_true_eq] at hb
    rw [kBits_eq] at hj
    exact ⟨(j : Int), mem_els.2 ⟨by omega, by simpa using hb.1⟩, hb.2.2⟩
  · rintro ⟨x, hx, hm⟩ h0
    obtain ⟨h1, h2⟩ := mem_els.1 hx
    have : (s &&& ofL xs).testBit x.toNat = true := by
      rw [Nat.testBit_and, ofL_testBit, h2, Bool.true_and, decide_eq_true_eq]
      exact ⟨by omega, by rw [show ((x.toNat : Nat) : Int) = x by omega]; exact hm⟩
    rw [h0] at this
    simp at this
/-- The program's construction, seen from the reference's. -/
theorem cons_ref {a : Au} (he : auErr a = 0) (h6 : a.states ≤ 6) {most : Int} (hm : 1 ≤ most) :
    (most < ((refSubs a).length : Int) ∧ consM a most = (8, none)) ∨
    (((refSubs a).length : Int) ≤ most ∧ ∃ st, consM a most = (0, some st) ∧ st.subs.map els = refSubs a ∧ fromM a st = refFrom a) := by
  have haok := AuOk.of he
  have hlim1 : 1 ≤ limM most := by unfold limM; split <;> omega
  have hlim2 : limM most ≤ 512 := by unfold limM; split <;> omega
  have hlim3 : limM most ≤ most := by unfold limM; split <;> omega
  have hlim4 : limM most = most ∨ limM most = 512 := by unfold limM; split <;> omega
  have hg0 : Good a (limM most) ⟨[], []⟩ := ⟨DS.Inv.nil (by omega), fun p hp => by cases hp⟩
  have hro0 : RefOk a ((⟨[], []⟩ : DS).subs.map els) := RefOk.nil a
  have hRok : RefOk a (refSubs a) := (RefOk.nil a).rounds _ _
  have hR64 := hRok.len h6
  have hcons : consM a most = match buildM a (limM most) 513 ⟨[], []⟩ with | none => (8, none) | some st => (0, some st) := by
    unfold consM
    rw [if_neg (by omega), if_neg (by omega)]
    rfl
  rcases buildM_ref haok (by omega) (f := 513) (F := 130) (was := -1) hg0 (by simp; omega) (by simp) (by decide) (by simp) hro0 h6 with ⟨st, h1, hg, hs, _, hx, _⟩ | ⟨h1, h2⟩
  · rw [h1] at hcons
    have hs' : st.subs.map els = refSubs a := hs
    have hlen : st.subs.length = (refSubs a).length := by rw [← hs', List.length_map]
    refine .inr ⟨by have := hg.inv.le; omega, st, hcons, hs', ?_⟩
    have hacc : accM a st = refFinal a (refSubs a) := by
      rw [← hs']
      simp only [accM, refFinal, List.map_map]
      refine List.map_congr_left fun s hsm => ?_
      dsimp only [Function.comp]
      exact and_els (hg.inv.bg s hsm) a.final
    have hto : (List.range a.ranks.length).map (toM a st) = (List.range a.ranks.length).map (refTo a (refSubs a)) := by
      refine List.map_congr_left fun t ht => ?_
      have ht' := List.mem_range.1 ht
      simp only [toM, refTo, ext_nil, hlen]
      refine List.map_congr_left fun xs hxs => ?_
      obtain ⟨n, hn⟩ := hx t ht' xs (by rw [hlen]; exact hxs)
      obtain ⟨p, hp, hk, rfl⟩ := lookM_key hn
      obtain ⟨s', args', hk', hf', h0, hsub⟩ := hg.res p hp
      obtain ⟨hst, ha⟩ := keyM_inj (hk.symm.trans hk')
      subst hst
      obtain ⟨hi1, hi2⟩ := tups_item hxs
      have hargs : xs = args' := ha (by rw [hf'.2.1]; exact hi1) (by have h2 := (hf'.rank haok).1; rw [hf'.2.1] at h2; rw [hi1]; exact h2)
      subst hargs
      simp only [valM, hn, Option.getD_some]
      have hsu := els_succ haok (subs := st.subs) (hf'.rank haok).2
      rw [hs'] at hsu
      rw [← hsu]
      have hmem : succM a st.subs t xs ∈ st.subs := List.mem_of_getElem? hsub
      have hmem2 : els (succM a st.subs t xs) ∈ refSubs a := by rw [← hs']; exact List.mem_map_of_mem hmem
      rw [refFind, if_pos hmem2]
      obtain ⟨hlt, hge⟩ := List.getElem?_eq_some_iff.1 hsub
      have hlt2 : p.2.toNat < (refSubs a).length := by omega
      have hge2 : (refSubs a)[p.2.toNat] = els (succM a st.subs t xs) := by
        have : (st.subs.map els)[p.2.toNat]'(by rw [List.length_map]; exact hlt) = els (succM a st.subs t xs) := by rw [List.getElem_map, hge]
        simpa [hs'] using this
      have := idxOf_at hlt2 hge2 (fun j hj hjk e => by
        have := (List.getElem_inj (xs := refSubs a) hRok.nd).1 (e.trans hge2.symm)
        omega)
      rw [this]; omega
    simp only [fromM, refFrom, hacc, hto]
  · rw [h1] at hcons
    have h2' : limM most < ((refSubs a).length : Int) := h2
    exact .inl ⟨by omega, hcons⟩
/-- The four ways of the construction. -/
theorem cons_ways (a : Au) (most : Int) (h6 : a.states ≤ 6) : ∃ (E : Int) (o : Option DS), consM a most = (E, o) ∧
    ((auErr a ≠ 0 ∧ E = auErr a ∧ o = none) ∨ (auErr a = 0 ∧ most < 1 ∧ E = 2 ∧ o = none) ∨ (auErr a = 0 ∧ ¬ most < 1 ∧ most < ((refSubs a).length : Int) ∧ E = 8 ∧ o = none) ∨
      (auErr a = 0 ∧ ¬ most < 1 ∧ ¬ most < ((refSubs a).length : Int) ∧ E = 0 ∧ ∃ st, o = some st ∧ st.subs.map els = refSubs a ∧ fromM a st = refFrom a)) := by
  refine ⟨(consM a most).1, (consM a most).2, rfl, ?_⟩
  by_cases h0 : auErr a = 0
  · by_cases h1 : most < 1
    · have : consM a most = (2, none) := by unfold consM; rw [if_neg (by omega), if_pos h1]
      rw [this]
      exact .inr (.inl ⟨h0, h1, rfl, rfl⟩)
    · rcases cons_ref h0 h6 (most := most) (by omega) with ⟨h2, h3⟩ | ⟨h2, st, h3, h4, h5⟩
      · rw [h3]; exact .inr (.inr (.inl ⟨h0, h1, h2, rfl, rfl⟩))
      · rw [h3]; exact .inr (.inr (.inr ⟨h0, h1, by omega, rfl, st, rfl, h4, h5⟩))
  · have : consM a most = (auErr a, none) := by unfold consM; rw [if_pos h0]
    rw [this]
    exact .inl ⟨h0, rfl, rfl⟩
theorem RepDt.nil (H : View) : RepDt H ⟨[], [], []⟩ nilS nilS nilS := ⟨⟨⟨none, 0, rfl, .inl ⟨rfl, rfl⟩⟩, by simp⟩, ⟨none, 0, rfl, .inl ⟨rfl, rfl⟩⟩, SSI.nil _ none 0⟩
def DtSmall (d : Dt) : Prop := d.ranks.length ≤ 1099511627776 ∧ d.acc.length ≤ 1099511627776 ∧ d.to.length ≤ 1099511627776 ∧ ∀ x ∈ d.to, x.length ≤ 1099511627776
theorem refFrom_small {a : Au} (he : auErr a = 0) (h6 : a.states ≤ 6) : DtSmall (refFrom a) := by
  have haok := AuOk.of he
  have h1 := haok.rl
  have h2 := ((RefOk.nil a).rounds 130 (-1)).len h6
  refine ⟨by simp only [refFrom]; omega, ?_, ?_, ?_⟩
  · simp only [refFrom, refFinal, List.length_map]
    exact Nat.le_trans h2 (by decide)
  · simp only [refFrom, List.length_map, List.length_range]; omega
  · intro x hx
    simp only [refFrom, List.mem_map, List.mem_range] at hx
    obtain ⟨s, hs, rfl⟩ := hx
    simp only [refTo, List.length_map, tups_len]
    have hr := haok.rk s hs
    have hg : a.ranks.getD s 0 = a.ranks[s] := by simp [List.getD, hs]
    rw [hg]
    exact Nat.le_trans (pow_le2 (k := (refSubs a).length) (Nat.le_trans h2 (by decide)) (by omega)) (by decide)
theorem DtSmall.nil : DtSmall ⟨[], [], []⟩ := ⟨by simp, by simp, by simp, by simp⟩
end Pal
