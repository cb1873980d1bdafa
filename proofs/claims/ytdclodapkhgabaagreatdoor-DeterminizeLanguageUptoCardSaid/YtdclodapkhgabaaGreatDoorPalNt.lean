/-
  Deterministic automata as nondeterministic ones, their reachable states; visits whose state depends on the view. Own work. No statement of the seat is proved here.
-/
import Derived.Test.YtdclodapkhgabaaGreatDoorPalSo
namespace Pal
open Go
/-- What the function owes that is shown all tuples; its state may speak of the view. -/
def VisitV (P : Program) (gf : Nat) (cap : List Value) (H0 : View) (T : List (List Int)) (E : List (List Int) → View → HL → Prop) : Prop :=
  (∀ pre V V' q, VLe V V' → E pre V q → E pre V' q) ∧ ∀ H pre xs a len cp p, xs.length = len → VLe H0 H → E pre H p → (pre ++ [xs]) <+: T → SI H (.slice a len cp) xs → len ≤ cp →
    SatO P gf ([] ++ [Value.slice a len cp] ++ cap).toArray H p (fun v V' q => v = .bool true ∧ E (pre ++ [xs]) V' q)
/-! ### Places of tuples -/
theorem range_mul (n : Nat) : ∀ a : Nat, (List.range a).flatMap (fun p => (List.range n).map fun x => p * n + x) = List.range (a * n)
  | 0 => by simp
  | a + 1 => by
    rw [List.range_succ, List.flatMap_append, range_mul n a, Nat.add_mul, Nat.one_mul, List.range_add, List.flatMap_singleton]
theorem placeM_snoc (n : Nat) (l : List Int) (x : Int) : placeM n (l ++ [x]) = placeM n l * n + x := by
  simp [placeM, List.foldl_append]
theorem tups_place (n : Nat) : ∀ m, (tups n m).map (placeM n) = (List.range (n ^ m)).map fun (i : Nat) => (i : Int)
  | 0 => by simp [tups, placeM]
  | m + 1 => by
    have ih := tups_place n m
    have h1 : (tups n (m + 1)).map (placeM n) = ((tups n m).map (placeM n)).flatMap fun p => (List.range n).map fun (x : Nat) => p * (n : Int) + (x : Int) := by
      simp only [tups, List.map_flatMap, List.map_map, List.flatMap_map, Function.comp_def, placeM_snoc]
    rw [h1, ih, List.flatMap_map, Nat.pow_succ, ← range_mul n (n ^ m), List.map_flatMap]
    congr 1
    funext p
    simp only [List.map_map, Function.comp_def, Int.natCast_add, Int.natCast_mul]
theorem tups_at {n m i : Nat} (h : i < (tups n m).length) : placeM n (tups n m)[i] = (i : Int) := by
  have h1 := tups_place n m
  have h2 : ((tups n m).map (placeM n))[i]'(by rw [List.length_map]; exact h) = ((List.range (n ^ m)).map fun (i : Nat) => (i : Int))[i]'(by rw [List.length_map, List.length_range, ← tups_len n m]; exact h) := by
    simp only [h1]
  rw [List.getElem_map, List.getElem_map, List.getElem_range] at h2
  exact h2
/-! ### As a nondeterministic automaton -/
def rulesD1 (d : Dt) (s : Nat) : List Rl := (tups d.acc.length (d.ranks.getD s 0).toNat).map fun xs => ⟨(s : Int), xs, atM d (s : Int) xs⟩
def rulesD (d : Dt) : List Rl := (List.range d.ranks.length).flatMap (rulesD1 d)
def finalD (d : Dt) : List Int := subL d.acc.length fun s => d.acc.getD s false
def ntaM (d : Dt) : Au := ⟨d.ranks, (d.acc.length : Int), rulesD d, finalD d⟩
theorem mem_rulesD {d : Dt} {r : Rl} : r ∈ rulesD d ↔ ∃ s : Nat, s < d.ranks.length ∧ r.sym = (s : Int) ∧ r.args ∈ tups d.acc.length (d.ranks.getD s 0).toNat ∧ r.to = atM d (s : Int) r.args := by
  simp only [rulesD, rulesD1, List.mem_flatMap, List.mem_range, List.mem_map]
  constructor
  · rintro ⟨s, hs, xs, hxs, rfl⟩
    exact ⟨s, hs, rfl, hxs, rfl⟩
  · rintro ⟨s, hs, h1, h2, h3⟩
    refine ⟨s, hs, r.args, h2, ?_⟩
    cases r; simp_all
theorem mem_tups {n : Nat} : ∀ {m : Nat} {xs : List Int}, xs ∈ tups n m ↔ xs.length = m ∧ ∀ x ∈ xs, 0 ≤ x ∧ x < (n : Int)
  | 0, xs => by
    simp only [tups, List.mem_singleton]
    constructor
    · rintro rfl; simp
    · rintro ⟨h, _⟩; exact List.eq_nil_of_length_eq_zero h
  | m + 1, xs => by
    constructor
    · exact tups_item
    · rintro ⟨h1, h2⟩
      have hne : xs ≠ [] := fun e => by subst e; simp at h1
      obtain ⟨ys, y, rfl⟩ : ∃ ys y, xs = ys ++ [y] := ⟨xs.dropLast, xs.getLast hne, (List.dropLast_concat_getLast hne).symm⟩
      have hy := h2 y (by simp)
      simp only [tups, List.mem_flatMap, List.mem_map, List.mem_range]
      refine ⟨ys, (mem_tups (m := m)).2 ⟨by simpa using h1, fun x hx => h2 x (by simp [hx])⟩, y.toNat, by omega, ?_⟩
      rw [show ((y.toNat : Nat) : Int) = y by omega]
theorem AuOk.err {a : Au} (h : AuOk a) (h0 : ranksErr a.ranks = 0) : auErr a = 0 := by
  have hst := h.st
  have hul := h.ul
  have hru : ∀ r ∈ a.rules, ruleErr a r = 0 := by
    intro r hr
    obtain ⟨h1, h2, h3, h4, h5, h6⟩ := h.ru r hr
    unfold ruleErr
    have hb : r.args.any (badQ a.states) = false := by
      rw [List.any_eq_false]; intro q hq; have := h4 q hq; simp [badQ, this]
    have hb2 : badQ a.states r.to = false := by simp [badQ, h5, h6]
    rw [if_neg (by omega), if_neg (by rw [h3]; simp), hb, hb2]
    simp
  have hfi : a.final.any (badQ a.states) = false := by
    rw [List.any_eq_false]; intro q hq; have := h.fi q hq; simp [badQ, this]
  have hrs : rulesErr a a.rules = 0 := rulesErr_zero fun j hj => hru _ (List.getElem_mem hj)
  unfold auErr
  rw [if_neg (by rw [h0]; simp), if_neg (by omega), if_neg (by rw [hrs]; simp), hfi]
  simp
theorem rulesD_len {d : Dt} (h : DtOk d) (hn : d.acc.length ≤ 5) : (rulesD d).length ≤ d.ranks.length * 25 := by
  have key : ∀ (l : List Nat), (∀ s ∈ l, s < d.ranks.length) → (l.flatMap (rulesD1 d)).length ≤ l.length * 25 := by
    intro l
    induction l with
    | nil => intro _; simp
    | cons s l ih =>
      intro hl
      have h1 := ih (fun t ht => hl t (by simp [ht]))
      have hs := hl s (by simp)
      have h2 : (rulesD1 d s).length ≤ 25 := by
        rw [rulesD1, List.length_map, tups_len]
        have hr := (ranksErr_ok h.rk).2 s hs
        have hg : d.ranks.getD s 0 = d.ranks[s] := by simp [List.getD, hs]
        rw [hg]
        have h3 : d.ranks[s].toNat ≤ 2 := by omega
        have h4 : d.acc.length ^ d.ranks[s].toNat ≤ 5 ^ d.ranks[s].toNat := Nat.pow_le_pow_left hn _
        have h5 : 5 ^ d.ranks[s].toNat ≤ 5 ^ 2 := Nat.pow_le_pow_right (by decide) h3
        omega
      rw [List.flatMap_cons, List.length_append, List.length_cons]
      omega
  have := key (List.range d.ranks.length) (fun s hs => List.mem_range.1 hs)
  simpa [rulesD] using this
theorem ntaM_ok {d : Dt} (h : DtOk d) (hn : d.acc.length ≤ 5) (hr : d.ranks.length ≤ 8) : AuOk (ntaM d) := by
  have hrk := ranksErr_ok h.rk
  have hlen := rulesD_len h hn
  refine ⟨hrk.1, hrk.2, ⟨by simp [ntaM], by simp only [ntaM]; omega⟩, by simp only [ntaM]; omega, ?_, ?_⟩
  · intro r hr'
    obtain ⟨s, hs, h1, h2, h3⟩ := mem_rulesD.1 hr'
    obtain ⟨h4, h5⟩ := tups_item h2
    have hg : d.ranks.getD s 0 = d.ranks[s] := by simp [List.getD, hs]
    have hrs := hrk.2 s hs
    have hra : (r.args.length : Int) = d.ranks.getD ((s : Int)).toNat 0 := by rw [h4, Int.toNat_natCast, hg]; omega
    have hat := (h.at_ok (s := (s : Int)) (l := r.args) ⟨by omega, by omega⟩ hra h5).2.2
    refine ⟨by rw [h1]; omega, by rw [h1]; simp only [ntaM]; omega, by rw [h1]; exact hra, h5, by rw [h3]; exact hat.1, by rw [h3]; exact hat.2⟩
  · intro q hq
    obtain ⟨s, hs, rfl⟩ := List.mem_map.1 hq
    have := List.mem_range.1 (List.mem_filter.1 hs).1
    simp only [ntaM]; omega
theorem ntaM_err {d : Dt} (h : DtOk d) (hn : d.acc.length ≤ 5) (hr : d.ranks.length ≤ 8) : auErr (ntaM d) = 0 := (ntaM_ok h hn hr).err h.rk
/-! ### Reachable states -/
def pickD (out : List Int) (xs : List Int) : List Int := xs.map fun i => out.getD i.toNat 0
def stepD (d : Dt) (s : Int) (out : List Int) (xs : List Int) : List Int := if atM d s (pickD out xs) ∈ out then out else out ++ [atM d s (pickD out xs)]
def stepsD (d : Dt) (s : Int) (xss : List (List Int)) (out : List Int) : List Int := xss.foldl (stepD d s) out
def symsD (d : Dt) (was : Nat) : List Int → Int → List Int → List Int
  | [], _, out => out
  | r :: rs, s, out => symsD d was rs (s + 1) (stepsD d s (tups was r.toNat) out)
def roundsD (d : Dt) : Nat → Int → List Int → List Int
  | 0, _, out => out
  | f + 1, was, out => if was < out.length then roundsD d f out.length (symsD d out.length d.ranks 0 out) else out
def foundD (d : Dt) : List Int := roundsD d 130 (-1) []
def ones (out : List Int) : List (List Int) := out.map fun q => [q]
theorem ones_mem {out : List Int} {q : Int} : [q] ∈ ones out ↔ q ∈ out := by
  simp only [ones, List.mem_map]
  constructor
  · rintro ⟨x, hx, h⟩; simp at h; exact h ▸ hx
  · exact fun h => ⟨q, h, rfl⟩
theorem subL_one {n : Nat} {t : Int} (h : 0 ≤ t ∧ t < (n : Int)) : subL n (fun s => decide ((s : Int) = t)) = [t] := by
  obtain ⟨k, rfl⟩ : ∃ k : Nat, t = (k : Int) := ⟨t.toNat, by omega⟩
  have hk : k < n := by omega
  clear h
  induction n with
  | zero => omega
  | succ n ih =>
    by_cases e : k = n
    · subst e
      rw [subL_yes (by simp)]
      have : subL k (fun s => decide ((s : Int) = (k : Int))) = [] := by
        unfold subL
        rw [List.map_eq_nil_iff, List.filter_eq_nil_iff]
        intro s hs
        have := List.mem_range.1 hs
        simp; omega
      rw [this]; rfl
    · rw [subL_no (by simp; omega)]
      exact ih (by omega)
def States (d : Dt) (out : List Int) : Prop := ∀ q ∈ out, 0 ≤ q ∧ q < (d.acc.length : Int)
theorem pick_ok {d : Dt} {out xs : List Int} (ho : States d out) (hx : ∀ x ∈ xs, 0 ≤ x ∧ x < (out.length : Int)) : ∀ q ∈ pickD out xs, 0 ≤ q ∧ q < (d.acc.length : Int) := by
  intro q hq
  obtain ⟨i, hi, rfl⟩ := List.mem_map.1 hq
  have h1 := hx i hi
  have h2 : i.toNat < out.length := by omega
  have : out.getD i.toNat 0 = out[i.toNat] := by simp [List.getD, h2]
  rw [this]
  exact ho _ (List.getElem_mem h2)
theorem next_one {d : Dt} (h : DtOk d) {s : Nat} (hs : s < d.ranks.length) {out xs : List Int} (ho : States d out) (hl : xs.length = (d.ranks.getD s 0).toNat) (hx : ∀ x ∈ xs, 0 ≤ x ∧ x < (out.length : Int)) :
    refNext (ntaM d) (s : Int) (ofM (ones out) xs) = [atM d (s : Int) (pickD out xs)] ∧ (0 ≤ atM d (s : Int) (pickD out xs) ∧ atM d (s : Int) (pickD out xs) < d.acc.length) := by
  have hp := pick_ok ho hx
  have hg : d.ranks.getD s 0 = d.ranks[s] := by simp [List.getD, hs]
  have hrs := (ranksErr_ok h.rk).2 s hs
  have hpl : (pickD out xs).length = xs.length := by simp [pickD]
  have hat := (h.at_ok (s := (s : Int)) (l := pickD out xs) ⟨by omega, by omega⟩ (by rw [hpl, hl, Int.toNat_natCast, hg]; omega) hp).2.2
  refine ⟨?_, hat⟩
  rw [refNext_sub]
  have hst : (ntaM d).states.toNat = d.acc.length := by simp [ntaM]
  rw [hst, ← subL_one hat]
  refine subL_congr fun q hq => ?_
  rw [Bool.eq_iff_iff, List.any_eq_true, decide_eq_true_eq]
  have hol : (ofM (ones out) xs).length = xs.length := by simp [ofM]
  have hget : ∀ k, k < xs.length → (ofM (ones out) xs).getD k [] = [(pickD out xs).getD k 0] := by
    intro k hk
    rw [getD_ofM _ _ hk]
    have h1 := hx _ (List.getElem_mem hk)
    have h2 : xs[k].toNat < out.length := by omega
    have h3 : xs.getD k 0 = xs[k] := by simp [List.getD, hk]
    rw [h3]
    simp [ones, pickD, List.getD, hk, h2]
  constructor
  · rintro ⟨r, hr, hf⟩
    obtain ⟨s', hs', h1, h2, h3⟩ := mem_rulesD.1 hr
    simp only [fitR, Bool.and_eq_true, decide_eq_true_eq] at hf
    obtain ⟨⟨h4, h5⟩, h6⟩ := hf
    have hss : s' = s := by omega
    subst hss
    have hargs : r.args = pickD out xs := by
      have hal := (tups_item h2).1
      refine List.ext_getElem (by rw [hpl, hal, hl]) fun k g1 g2 => ?_
      have hk : k < xs.length := by rw [hpl] at g2; exact g2
      simp only [hasAll, List.all_eq_true, List.mem_range, decide_eq_true_eq] at h6
      have := h6 k (by rw [hol]; exact hk)
      rw [hget k hk] at this
      simp only [List.mem_singleton] at this
      have e1 : r.args.getD k 0 = r.args[k] := by simp [List.getD, g1]
      have e2 : (pickD out xs).getD k 0 = (pickD out xs)[k] := by simp [List.getD, g2]
      rw [e1, e2] at this
      exact this
    rw [← h5, h3, hargs]
  · intro hq2
    refine ⟨⟨(s : Int), pickD out xs, atM d (s : Int) (pickD out xs)⟩, mem_rulesD.2 ⟨s, hs, rfl, mem_tups.2 ⟨by rw [hpl, hl], hp⟩, rfl⟩, ?_⟩
    simp only [fitR, Bool.and_eq_true, decide_eq_true_eq]
    refine ⟨⟨trivial, hq2.symm⟩, ?_⟩
    simp only [hasAll, List.all_eq_true, List.mem_range, decide_eq_true_eq]
    intro k hk
    rw [hol] at hk
    rw [hget k hk]
    simp
theorem step_ones {d : Dt} (h : DtOk d) {s : Nat} (hs : s < d.ranks.length) {out xs : List Int} (ho : States d out) (hl : xs.length = (d.ranks.getD s 0).toNat) (hx : ∀ x ∈ xs, 0 ≤ x ∧ x < (out.length : Int)) :
    refStep (ntaM d) (s : Int) (ones out) xs = ones (stepD d (s : Int) out xs) ∧ States d (stepD d (s : Int) out xs) ∧ out.length ≤ (stepD d (s : Int) out xs).length := by
  obtain ⟨h1, h2⟩ := next_one h hs ho hl hx
  unfold refStep stepD
  rw [h1]
  by_cases hm : atM d (s : Int) (pickD out xs) ∈ out
  · rw [if_pos hm, if_pos (ones_mem.2 hm)]
    exact ⟨rfl, ho, Nat.le_refl _⟩
  · rw [if_neg hm, if_neg (fun h => hm (ones_mem.1 h))]
    refine ⟨by simp [ones], ?_, by simp⟩
    intro q hq
    rcases List.mem_append.1 hq with hq | hq
    · exact ho q hq
    · simp at hq; subst hq; exact h2
theorem steps_ones {d : Dt} (h : DtOk d) {s : Nat} (hs : s < d.ranks.length) : ∀ {xss : List (List Int)} {out : List Int}, States d out → (∀ xs ∈ xss, xs.length = (d.ranks.getD s 0).toNat ∧ ∀ x ∈ xs, 0 ≤ x ∧ x < (out.length : Int)) →
    refSteps (ntaM d) (s : Int) xss (ones out) = ones (stepsD d (s : Int) xss out) ∧ States d (stepsD d (s : Int) xss out) ∧ out.length ≤ (stepsD d (s : Int) xss out).length
  | [], out, ho, _ => ⟨rfl, ho, Nat.le_refl _⟩
  | xs :: xss, out, ho, hx => by
    obtain ⟨h1, h2⟩ := hx xs (by simp)
    obtain ⟨g1, g2, g3⟩ := step_ones h hs ho h1 h2
    obtain ⟨k1, k2, k3⟩ := steps_ones h hs (xss := xss) g2 (fun ys hy => ⟨(hx ys (by simp [hy])).1, fun x hxx => by have := (hx ys (by simp [hy])).2 x hxx; omega⟩)
    refine ⟨?_, k2, Nat.le_trans g3 k3⟩
    show refSteps (ntaM d) (s : Int) xss (refStep (ntaM d) (s : Int) (ones out) xs) = _
    rw [g1, k1]; rfl
theorem syms_ones {d : Dt} (h : DtOk d) {was : Nat} : ∀ {rs : List Int} {s : Nat} {out : List Int}, rs = d.ranks.drop s → States d out → was ≤ out.length →
    refSyms (ntaM d) was rs (s : Int) (ones out) = ones (symsD d was rs (s : Int) out) ∧ States d (symsD d was rs (s : Int) out) ∧ out.length ≤ (symsD d was rs (s : Int) out).length
  | [], s, out, _, ho, _ => ⟨rfl, ho, Nat.le_refl _⟩
  | r :: rs, s, out, hrs, ho, hw => by
    have hs : s < d.ranks.length := by have h3 := congrArg List.length hrs; simp at h3; omega
    rw [List.drop_eq_getElem_cons hs] at hrs
    simp only [List.cons.injEq] at hrs
    obtain ⟨hr, hrs⟩ := hrs
    have hrk : (d.ranks.getD s 0).toNat = r.toNat := by simp [List.getD, hs, hr]
    have hsym : ((s : Int) + 1) = ((s + 1 : Nat) : Int) := by omega
    obtain ⟨g1, g2, g3⟩ := steps_ones h hs (xss := tups was r.toNat) ho (fun xs hx => ⟨by rw [hrk]; exact (tups_item hx).1, fun x hxx => by have := (tups_item hx).2 x hxx; omega⟩)
    obtain ⟨k1, k2, k3⟩ := syms_ones h (s := s + 1) hrs g2 (Nat.le_trans hw g3)
    simp only [refSyms, symsD]
    rw [g1, hsym, k1]
    exact ⟨rfl, k2, Nat.le_trans g3 k3⟩
theorem ones_len (out : List Int) : (ones out).length = out.length := by simp [ones]
theorem rounds_ones {d : Dt} (h : DtOk d) : ∀ {f : Nat} {was : Int} {out : List Int}, States d out → refRounds (ntaM d) f was (ones out) = ones (roundsD d f was out) ∧ States d (roundsD d f was out)
  | 0, _, out, ho => ⟨rfl, ho⟩
  | f + 1, was, out, ho => by
    simp only [refRounds, roundsD, ones_len]
    by_cases hw : was < out.length
    · rw [if_pos hw, if_pos hw]
      obtain ⟨g1, g2, _⟩ := syms_ones h (was := out.length) (rs := d.ranks) (s := 0) (out := out) rfl ho (Nat.le_refl _)
      have g1' : refSyms (ntaM d) out.length (ntaM d).ranks 0 (ones out) = ones (symsD d out.length d.ranks 0 out) := g1
      have g2' : States d (symsD d out.length d.ranks 0 out) := g2
      rw [g1']
      exact rounds_ones h g2'
    · rw [if_neg hw, if_neg hw]
      exact ⟨rfl, ho⟩
theorem subs_found {d : Dt} (h : DtOk d) : refSubs (ntaM d) = ones (foundD d) ∧ States d (foundD d) := rounds_ones h (f := 130) (was := -1) (out := []) (fun q hq => by cases hq)
/-- The construction is closed. -/
theorem refSubs_closed {a : Au} (he : auErr a = 0) (h6 : a.states ≤ 6) : RefOk a (refSubs a) ∧ ∀ t, t < a.ranks.length → ∀ xs ∈ tups (refSubs a).length (rankN a t), refNext a (t : Int) (ofM (refSubs a) xs) ∈ refSubs a := by
  have haok := AuOk.of he
  have hRok : RefOk a (refSubs a) := (RefOk.nil a).rounds _ _
  have hR64 := hRok.len h6
  refine ⟨hRok, ?_⟩
  have hg0 : Good a (512 : Int) ⟨[], []⟩ := ⟨DS.Inv.nil (by omega), fun p hp => by cases hp⟩
  rcases buildM_ref haok (by omega) (f := 513) (F := 130) (was := -1) hg0 (by simp) (by simp) (by decide) (by simp) (RefOk.nil a) h6 with ⟨st, h1, hg, hs, _, hx, _⟩ | ⟨h1, h2⟩
  · have hs' : st.subs.map els = refSubs a := hs
    have hlen : st.subs.length = (refSubs a).length := by rw [← hs', List.length_map]
    intro t ht xs hxs
    obtain ⟨n, hn⟩ := hx t ht xs (by rw [hlen]; exact hxs)
    obtain ⟨p, hp, hk, rfl⟩ := lookM_key hn
    obtain ⟨s', args', hk', hf', h0, hsub⟩ := hg.res p hp
    obtain ⟨hst, ha⟩ := keyM_inj (hk.symm.trans hk')
    subst hst
    obtain ⟨hi1, hi2⟩ := tups_item hxs
    have hargs : xs = args' := ha (by rw [hf'.2.1]; exact hi1) (by have h2 := (hf'.rank haok).1; rw [hf'.2.1] at h2; rw [hi1]; exact h2)
    subst hargs
    have hsu := els_succ haok (subs := st.subs) (hf'.rank haok).2
    rw [hs'] at hsu
    rw [← hsu, ← hs']
    exact List.mem_map_of_mem (List.mem_of_getElem? hsub)
  · have h2' : (512 : Int) < ((refSubs a).length : Int) := h2
    omega
def asD (found : List Int) (q : Int) : Int := if q ∈ found then (found.idxOf q : Int) else 0
def trimD (d : Dt) : Dt := ⟨d.ranks, (foundD d).map fun q => d.acc.getD q.toNat false, (List.range d.ranks.length).map fun s => (tups (foundD d).length (d.ranks.getD s 0).toNat).map fun xs => asD (foundD d) (atM d (s : Int) (pickD (foundD d) xs))⟩
theorem ones_nodup {out : List Int} (h : (ones out).Nodup) : out.Nodup := by
  unfold ones at h
  exact List.Pairwise.imp (fun hne e => hne (by rw [e])) (List.pairwise_map.1 h)
theorem ones_idx {out : List Int} {q : Int} : (ones out).idxOf [q] = out.idxOf q := by
  induction out with
  | nil => rfl
  | cons x r ih =>
    simp only [ones, List.map_cons, List.idxOf_cons]
    by_cases e : x = q
    · subst e; simp
    · have h1 : ([x] == [q]) = false := by simp [e]
      have h2 : (x == q) = false := by simp [e]
      rw [h1, h2]
      simp only [cond_false]
      rw [← ih]; rfl
theorem found_facts {d : Dt} (h : DtOk d) (hn : d.acc.length ≤ 5) (hr : d.ranks.length ≤ 8) : (foundD d).Nodup ∧ (foundD d).length ≤ 64 ∧ States d (foundD d) ∧
    ∀ s, s < d.ranks.length → ∀ xs ∈ tups (foundD d).length (d.ranks.getD s 0).toNat, atM d (s : Int) (pickD (foundD d) xs) ∈ foundD d := by
  have hst6 : (ntaM d).states ≤ 6 := by simp only [ntaM]; omega
  obtain ⟨h1, h2⟩ := subs_found h
  obtain ⟨h3, h4⟩ := refSubs_closed (ntaM_err h hn hr) hst6
  have h5 := h3.len hst6
  rw [h1] at h3 h4 h5
  refine ⟨ones_nodup h3.nd, by rw [ones_len] at h5; exact h5, h2, ?_⟩
  intro s hs xs hxs
  have h6 := h4 s hs xs (by rw [ones_len]; exact hxs)
  rw [(next_one h hs h2 (tups_item hxs).1 (tups_item hxs).2).1] at h6
  exact ones_mem.1 h6
/-- Determinizing a deterministic automaton trims it. -/
theorem from_trim {d : Dt} (h : DtOk d) (hn : d.acc.length ≤ 5) (hr : d.ranks.length ≤ 8) : refFrom (ntaM d) = trimD d := by
  obtain ⟨h1, h2⟩ := subs_found h
  obtain ⟨g1, g2, g3, g4⟩ := found_facts h hn hr
  have hacc : refFinal (ntaM d) (refSubs (ntaM d)) = (foundD d).map fun q => d.acc.getD q.toNat false := by
    rw [h1]
    simp only [refFinal, ones, List.map_map]
    refine List.map_congr_left fun q hq => ?_
    have hq2 := g3 q hq
    obtain ⟨k, rfl⟩ : ∃ k : Nat, q = (k : Int) := ⟨q.toNat, by omega⟩
    have hmem : (k : Int) ∈ (ntaM d).final ↔ d.acc.getD k false = true := by
      show (k : Int) ∈ subL d.acc.length (fun s => d.acc.getD s false) ↔ _
      rw [mem_subL]
      exact ⟨fun h => h.2, fun h => ⟨by omega, h⟩⟩
    rw [Bool.eq_iff_iff]
    simp only [Function.comp, List.any_cons, List.any_nil, Bool.or_false, decide_eq_true_eq, hmem, Int.toNat_natCast]
  have hto : (List.range (ntaM d).ranks.length).map (refTo (ntaM d) (refSubs (ntaM d))) = (List.range d.ranks.length).map fun s => (tups (foundD d).length (d.ranks.getD s 0).toNat).map fun xs => asD (foundD d) (atM d (s : Int) (pickD (foundD d) xs)) := by
    refine List.map_congr_left fun s hs => ?_
    have hs' : s < d.ranks.length := List.mem_range.1 hs
    rw [h1]
    simp only [refTo, ones_len]
    refine List.map_congr_left fun xs hxs => ?_
    have hm := g4 s hs' xs hxs
    rw [(next_one h hs' g3 (tups_item hxs).1 (tups_item hxs).2).1, refFind, if_pos (ones_mem.2 hm), ones_idx, asD, if_pos hm]
  unfold refFrom trimD
  rw [hacc, hto]
  rfl
end Pal
