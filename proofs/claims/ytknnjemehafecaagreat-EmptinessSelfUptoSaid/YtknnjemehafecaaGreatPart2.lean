/-
  Part of the proof: rules for walks, contracts of the functions that the statements reach, plain laws. Own work. No statement of the seat is proved here.
-/
import Derived.Test.YtknnjemehafecaaGreatPart1
import Derived.DeepKeys4
import Derived.Test.YtknnjemehafecaaGreatPalG
import Derived.Shelf.SlSortCmp.NoneTotal
import Derived.Shelf.SortG.Plain
import Derived.Shelf.SortG.SortNone
import Derived.Ground.SlsfProg
import Derived.Ground.SlgnProg
import Derived.Test.YtknnjemehafecaaGreatProg
/-
  The product of two automata, in plain Lean. Own work. No program, no statement of the seat.
-/
namespace Pal
open Go Go.Proofs Go.Proofs.X
theorem keysAt_nodup {kvs : KVs} {seen : List Nat} (hk : (kvs.map (·.1)).Nodup) (hn : seen.Nodup) (hlt : ∀ i ∈ seen, i < kvs.length) : (keysAt kvs seen).Nodup := by
  unfold keysAt
  rw [List.Nodup, List.pairwise_map]
  refine List.Pairwise.imp_of_mem (fun {a b} ha hb hab e => ?_) hn
  have h1 := hlt a ha
  have h2 := hlt b hb
  have key : ∀ i j, i < j → (hj : j < kvs.length) → (kvs.getD i (0, nilS)).1 ≠ (kvs.getD j (0, nilS)).1 := fun i j hij hj e => by
    have hi : i < kvs.length := by omega
    have h3 := List.pairwise_iff_getElem.1 hk i j (by simpa using hi) (by simpa using hj) hij
    apply h3
    simp only [List.getElem_map]
    simpa [List.getD, hi, hj] using e
  rcases Nat.lt_or_gt_of_ne hab with h | h
  · exact key a b h h2 e
  · exact key b a h h1 e.symm
end Pal

/-
  The least accepted preimage of a tree: what the tables hold, and that it is the least. Plain Lean, no program. Own work.
-/
namespace Pal
open Go Go.Proofs Go.Proofs.X
/-! ### Trees asx slices of symbols -/
mutual
def Tr.code : Tr → List Int
  | .node s ts => s :: Tr.codes ts
def Tr.codes : List Tr → List Int
  | [] => []
  | t :: ts => Tr.code t ++ Tr.codes ts
end
theorem cmpL_append_ne {a b x y : List Int} (hl : a.length = b.length) (h : cmpL a b ≠ 0) : cmpL (a ++ x) (b ++ y) = cmpL a b := by
  rcases cmpL_vals a b with e | e | e
  · have h1 := cmpL_append_lt x y hl (by omega : cmpL a b < 0)
    rcases cmpL_vals (a ++ x) (b ++ y) with g | g | g <;> omega
  · exact absurd e h
  · have e2 : cmpL b a < 0 := by rw [cmpL_swap]; omega
    have h1 := cmpL_append_lt y x hl.symm e2
    rw [cmpL_swap] at h1
    rcases cmpL_vals (a ++ x) (b ++ y) with g | g | g <;> omega
theorem relabel_node {l : List Int} {s : Int} {us : List Tr} {x : Tr} (h : Tr.relabel l (.node s us) = some x) : ∃ ts, x = .node (l.getD s.toNat 0) ts ∧ (0 ≤ s ∧ s < l.length) ∧ Tr.relabels l us = some ts := by
  simp only [Tr.relabel] at h
  split at h
  · rename_i hs
    cases hr : Tr.relabels l us with
    | none => rw [hr] at h; cases h
    | some ts =>
      rw [hr] at h
      simp only [Option.map_some, Option.some.injEq] at h
      exact ⟨ts, h.symm, hs, rfl⟩
  · cases h
theorem relabels_cons {l : List Int} {us : List Tr} {t : Tr} {ts : List Tr} (h : Tr.relabels l us = some (t :: ts)) : ∃ u vs, us = u :: vs ∧ Tr.relabel l u = some t ∧ Tr.relabels l vs = some ts := by
  cases us with
  | nil => simp [Tr.relabels] at h
  | cons u vs =>
    simp only [Tr.relabels] at h
    cases hu : Tr.relabel l u with
    | none => rw [hu] at h; cases h
    | some t' =>
      rw [hu] at h
      cases hr : Tr.relabels l vs with
      | none => rw [hr] at h; simp at h
      | some ts' =>
        rw [hr] at h
        simp only [Option.map_some, Option.some.injEq, List.cons.injEq] at h
        exact ⟨u, vs, rfl, by rw [hu, h.1], by rw [hr, h.2]⟩
theorem relabels_nil {l : List Int} {us : List Tr} (h : Tr.relabels l us = some []) : us = [] := by
  cases us with
  | nil => rfl
  | cons u vs =>
    simp only [Tr.relabels] at h
    cases hu : Tr.relabel l u with
    | none => rw [hu] at h; cases h
    | some t' =>
      rw [hu] at h
      cases hr : Tr.relabels l vs with
      | none => rw [hr] at h; simp at h
      | some ts' => rw [hr] at h; simp at h
mutual
theorem code_len {l : List Int} : ∀ (x u : Tr), Tr.relabel l u = some x → u.code.length = x.size
  | .node y ts, .node s us, h => by
    obtain ⟨ts', e, _, h2⟩ := relabel_node h
    cases e
    rw [Tr.code, List.length_cons, codes_len ts us h2, Tr.size]; omega
theorem codes_len {l : List Int} : ∀ (ts us : List Tr), Tr.relabels l us = some ts → (Tr.codes us).length = Tr.sizes ts
  | [], us, h => by rw [relabels_nil h]; rfl
  | t :: ts, us, h => by
    obtain ⟨u, vs, rfl, h1, h2⟩ := relabels_cons h
    rw [Tr.codes, List.length_append, code_len t u h1, codes_len ts vs h2, Tr.sizes]
end
mutual
theorem code_inj {l : List Int} : ∀ (x u v : Tr), Tr.relabel l u = some x → Tr.relabel l v = some x → u.code = v.code → u = v
  | .node y ts, .node s us, .node s' vs, h, h', e => by
    obtain ⟨ts1, e1, _, h2⟩ := relabel_node h
    obtain ⟨ts2, e2, _, h2'⟩ := relabel_node h'
    cases e1
    simp only [Tr.node.injEq] at e2
    obtain ⟨_, rfl⟩ := e2
    rw [Tr.code, Tr.code] at e
    obtain ⟨e3, e4⟩ := List.cons.inj e
    rw [e3, codes_inj _ us vs h2 h2' e4]
theorem codes_inj {l : List Int} : ∀ (ts us vs : List Tr), Tr.relabels l us = some ts → Tr.relabels l vs = some ts → Tr.codes us = Tr.codes vs → us = vs
  | [], us, vs, h, h', _ => by rw [relabels_nil h, relabels_nil h']
  | t :: ts, us, vs, h, h', e => by
    obtain ⟨u, us', rfl, h1, h2⟩ := relabels_cons h
    obtain ⟨v, vs', rfl, h1', h2'⟩ := relabels_cons h'
    rw [Tr.codes, Tr.codes] at e
    obtain ⟨e1, e2⟩ := List.append_inj e (by rw [code_len t u h1, code_len t v h1'])
    rw [code_inj t u v h1 h1' e1, codes_inj ts us' vs' h2 h2' e2]
end
def srcs (l : List Int) (y : Int) : List Int := ((List.range l.length).filter fun (s : Nat) => decide (l.getD s 0 = y)).map fun (s : Nat) => (s : Int)
structure Ch where
  s : Int
  p : Int
  q : Int
  i : Int
  k : Int
def chV (c : Ch) : Value := .agg #[.int .i64 c.s, .int .i64 c.p, .int .i64 c.q, .int .i64 c.i, .int .i64 c.k]
def ch0 : Ch := ⟨0, 0, 0, 0, 0⟩
def keyC (c : Ch) : List Int := [c.s, c.i, c.k]
def updF (f : Int → Option Ch) (q : Int) (c : Ch) : Int → Option Ch := fun x => if q = x then some c else f x
def consF (f : Int → Option Ch) (x : Ch × Int) : Int → Option Ch := match f x.2 with
  | none => updF f x.2 x.1
  | some o => if cmpL (keyC x.1) (keyC o) < 0 then updF f x.2 x.1 else f
theorem fold_cons : ∀ (cs : List (Ch × Int)) (f : Int → Option Ch),
    (∀ q c, cs.foldl consF f q = some c → f q = some c ∨ (c, q) ∈ cs) ∧ (∀ q o, f q = some o → ∃ c, cs.foldl consF f q = some c ∧ cmpL (keyC c) (keyC o) ≤ 0) ∧ (∀ c q, (c, q) ∈ cs → ∃ c', cs.foldl consF f q = some c' ∧ cmpL (keyC c') (keyC c) ≤ 0)
  | [], f => ⟨fun q c h => .inl h, fun q o h => ⟨o, h, by rw [cmpL_self]; exact Int.le_refl _⟩, fun c q h => by cases h⟩
  | x :: cs, f => by
    obtain ⟨h1, h2, h3⟩ := fold_cons cs (consF f x)
    have hx : ∃ c, consF f x x.2 = some c ∧ cmpL (keyC c) (keyC x.1) ≤ 0 := by
      unfold consF
      cases ho : f x.2 with
      | none => exact ⟨x.1, by simp [updF], by rw [cmpL_self]; exact Int.le_refl _⟩
      | some o =>
        dsimp only
        by_cases hc : cmpL (keyC x.1) (keyC o) < 0
        · rw [if_pos hc]; exact ⟨x.1, by simp [updF], by rw [cmpL_self]; exact Int.le_refl _⟩
        · rw [if_neg hc]; exact ⟨o, ho, by rw [cmpL_swap]; omega⟩
    have hf : ∀ q c, consF f x q = some c → f q = some c ∨ (c, q) = x := by
      intro q c h
      unfold consF at h
      cases ho : f x.2 with
      | none =>
        rw [ho] at h
        dsimp only [updF] at h
        split at h
        · rename_i e; cases h; exact .inr (by rw [← e])
        · exact .inl h
      | some o =>
        rw [ho] at h
        dsimp only at h
        split at h
        · dsimp only [updF] at h
          split at h
          · rename_i e; cases h; exact .inr (by rw [← e])
          · exact .inl h
        · exact .inl h
    have hk : ∀ q o, f q = some o → ∃ c, consF f x q = some c ∧ cmpL (keyC c) (keyC o) ≤ 0 := by
      intro q o ho
      unfold consF
      cases hx2 : f x.2 with
      | none =>
        dsimp only [updF]
        by_cases e : x.2 = q
        · rw [e, ho] at hx2; cases hx2
        · rw [if_neg e]; exact ⟨o, ho, by rw [cmpL_self]; exact Int.le_refl _⟩
      | some o2 =>
        dsimp only
        by_cases hc : cmpL (keyC x.1) (keyC o2) < 0
        · rw [if_pos hc]
          dsimp only [updF]
          by_cases e : x.2 = q
          · rw [if_pos e]
            rw [e, ho] at hx2
            cases hx2
            exact ⟨x.1, rfl, by omega⟩
          · rw [if_neg e]; exact ⟨o, ho, by rw [cmpL_self]; exact Int.le_refl _⟩
        · rw [if_neg hc]; exact ⟨o, ho, by rw [cmpL_self]; exact Int.le_refl _⟩
    refine ⟨fun q c h => ?_, fun q o ho => ?_, fun c q h => ?_⟩
    · rcases h1 q c h with h | h
      · rcases hf q c h with h | h
        · exact .inl h
        · exact .inr (by rw [h]; exact List.mem_cons_self)
      · exact .inr (List.mem_cons_of_mem _ h)
    · obtain ⟨c, e1, e2⟩ := hk q o ho
      obtain ⟨c', e3, e4⟩ := h2 q c e1
      exact ⟨c', e3, cmpL_le_trans e4 e2⟩
    · rcases List.mem_cons.1 h with h | h
      · subst h
        obtain ⟨c1, e1, e2⟩ := hx
        obtain ⟨c', e3, e4⟩ := h2 _ c1 e1
        exact ⟨c', e3, cmpL_le_trans e4 e2⟩
      · exact h3 c q h
def atI (d : Dt) (s place : Int) : Int := (d.to.getD s.toNat []).getD place.toNat 0
inductive Tb where
  | mk (f : Int → Option Ch) (R : List Int) (kids : List Tb)
def Tb.f : Tb → Int → Option Ch | .mk f _ _ => f
def Tb.R : Tb → List Int | .mk _ R _ => R
def Tb.kids : Tb → List Tb | .mk _ _ k => k
mutual
def Tb.tree : Tb → Int → Tr
  | .mk f _ kids, q => .node ((f q).getD ch0).s (Tb.trees kids [((f q).getD ch0).p, ((f q).getD ch0).q])
def Tb.trees : List Tb → List Int → List Tr
  | [], _ => []
  | t :: ts, q :: qs => Tb.tree t q :: Tb.trees ts qs
  | t :: ts, [] => Tb.tree t 0 :: Tb.trees ts []
end
/-- The states of a table, in the order of their choices. -/
structure IsR (f : Int → Option Ch) (R : List Int) : Prop where
  nd : R.Nodup
  mem : ∀ q, q ∈ R ↔ (f q).isSome = true
  le : R.Pairwise fun x y => cmpL (keyC ((f x).getD ch0)) (keyC ((f y).getD ch0)) ≤ 0
/-- What a table says of its tree. -/
structure TbG (d : Dt) (l : List Int) (x : Tr) (tb : Tb) : Prop where
  has : ∀ u, Tr.relabel l u = some x → (tb.f (u.run d)).isSome = true ∧ cmpL (tb.tree (u.run d)).code u.code ≤ 0
  is : ∀ q, (tb.f q).isSome = true → Tr.relabel l (tb.tree q) = some x ∧ (tb.tree q).run d = q
  lt : tb.R.Pairwise fun p q => cmpL (tb.tree p).code (tb.tree q).code < 0
  mem : ∀ q, q ∈ tb.R ↔ (tb.f q).isSome = true
def treeC (kids : List Tb) (c : Ch) : Tr := .node c.s (Tb.trees kids [c.p, c.q])
/-- What is asked of the choices. -/
structure CandOk (d : Dt) (l : List Int) (x : Tr) (kids : List Tb) (cs : List (Ch × Int)) : Prop where
  f1 : ∀ c q, (c, q) ∈ cs → Tr.relabel l (treeC kids c) = some x ∧ (treeC kids c).run d = q
  f2 : ∀ u, Tr.relabel l u = some x → ∃ c, (c, u.run d) ∈ cs ∧ cmpL (treeC kids c).code u.code ≤ 0
  f3 : ∀ c q c' q', (c, q) ∈ cs → (c', q') ∈ cs → cmpL (keyC c) (keyC c') ≤ 0 → cmpL (treeC kids c).code (treeC kids c').code ≤ 0
theorem TbG.of {d : Dt} {l : List Int} {x : Tr} {R : List Int} {kids : List Tb} {cs : List (Ch × Int)} {f : Int → Option Ch} (hf : f = cs.foldl consF fun _ => none) (h : CandOk d l x kids cs) (hR : IsR f R) : TbG d l x (.mk f R kids) := by
  obtain ⟨g1, _, g3⟩ := fold_cons cs (fun _ => none)
  rw [← hf] at g1 g3
  have hin : ∀ q c, f q = some c → (c, q) ∈ cs := fun q c e => (g1 q c e).resolve_left (fun e2 => by cases e2)
  have htree : ∀ q c, f q = some c → Tb.tree (.mk f R kids) q = treeC kids c := fun q c e => by rw [Tb.tree, e]; rfl
  refine ⟨fun u hu => ?_, fun q hq => ?_, ?_, hR.mem⟩
  · obtain ⟨c, h1, h2⟩ := h.f2 u hu
    obtain ⟨c', h3, h4⟩ := g3 c _ h1
    refine ⟨by show (f (u.run d)).isSome = true; rw [h3]; rfl, ?_⟩
    rw [htree _ _ h3]
    exact cmpL_le_trans (h.f3 _ _ _ _ (hin _ _ h3) h1 h4) h2
  · obtain ⟨c, hc⟩ := Option.isSome_iff_exists.1 hq
    rw [htree _ _ hc]
    exact h.f1 c q (hin _ _ hc)
  · show R.Pairwise _
    refine List.Pairwise.imp_of_mem (fun {p q} hp hq hpq => ?_) (hR.le.and hR.nd)
    obtain ⟨c, hc⟩ := Option.isSome_iff_exists.1 ((hR.mem p).1 hp)
    obtain ⟨c', hc'⟩ := Option.isSome_iff_exists.1 ((hR.mem q).1 hq)
    have hle := hpq.1
    rw [hc, hc'] at hle
    rw [htree _ _ hc, htree _ _ hc']
    have h1 := h.f3 _ _ _ _ (hin _ _ hc) (hin _ _ hc') hle
    obtain ⟨h2, h3⟩ := h.f1 c p (hin _ _ hc)
    obtain ⟨h4, h5⟩ := h.f1 c' q (hin _ _ hc')
    rcases Int.lt_or_eq_of_le h1 with h6 | h6
    · exact h6
    · exfalso
      have e := code_inj _ _ _ h2 h4 (cmpL_eq.1 h6)
      exact hpq.2 (by rw [← h3, ← h5, e])
end Pal

/-
  The order of trees: total, and nodes grow with their children. Own work. No statement of the seat is proved here.
-/
namespace Pal
open Go Go.Proofs Go.Proofs.X
mutual
def Tr.key : Tr → List Int
  | .node s ts => ((Tr.node s ts).size : Int) :: s :: (ts.length : Int) :: Tr.keys ts
def Tr.keys : List Tr → List Int
  | [] => []
  | t :: r => Tr.key t ++ Tr.keys r
end
mutual
theorem key_len : ∀ t : Tr, t.key.length = 3 * t.size
  | .node s ts => by
    have := keys_len ts
    rw [Tr.key, Tr.size]; simp only [List.length_cons]; omega
theorem keys_len : ∀ ts : List Tr, (Tr.keys ts).length = 3 * Tr.sizes ts
  | [] => rfl
  | t :: r => by
    have h1 := key_len t
    have h2 := keys_len r
    rw [Tr.keys, Tr.sizes, List.length_append]; omega
end
theorem cmpL_cons (a b : Int) (xs ys : List Int) : cmpL (a :: xs) (b :: ys) = if cmpI a b ≠ 0 then cmpI a b else cmpL xs ys := by
  unfold cmpI
  rw [cmpL]
  by_cases h1 : a < b
  · simp [h1]
  · by_cases h2 : b < a
    · simp [h1, h2]
    · simp [h1, h2]
mutual
theorem cmp_key : ∀ t u : Tr, Tr.cmp t u = cmpL t.key u.key
  | .node s ts, .node v us => by
    rw [Tr.cmp, Tr.key, Tr.key, cmpL_cons, cmpL_cons, cmpL_cons]
    by_cases h1 : cmpI (Tr.node s ts).size (Tr.node v us).size ≠ 0
    · rw [if_pos h1, if_pos h1]
    rw [if_neg h1, if_neg h1]
    by_cases h2 : cmpI s v ≠ 0
    · rw [if_pos h2, if_pos h2]
    rw [if_neg h2, if_neg h2]
    by_cases h3 : cmpI (ts.length : Int) us.length ≠ 0
    · rw [if_pos h3, if_pos h3]
    rw [if_neg h3, if_neg h3]
    refine cmps_key ts us ?_
    simp only [cmpI] at h3
    split at h3
    · exact absurd (by decide) h3
    · split at h3
      · exact absurd (by decide) h3
      · omega
theorem cmps_key : ∀ ts us : List Tr, ts.length = us.length → Tr.cmps ts us = cmpL (Tr.keys ts) (Tr.keys us)
  | [], [], _ => rfl
  | [], _ :: _, h => by cases h
  | _ :: _, [], h => by cases h
  | t :: ts, u :: us, h => by
    rw [Tr.cmps, Tr.keys, Tr.keys, cmp_key t u, cmps_key ts us (by simpa using h)]
    by_cases hs : t.size = u.size
    · by_cases h1 : cmpL t.key u.key ≠ 0
      · rw [if_pos h1, cmpL_append_ne (by rw [key_len, key_len, hs]) h1]
      · rw [if_neg h1]
        rw [cmpL_eq.1 (Decidable.not_not.1 h1), cmpL_append_self]
    · have h1 : ∀ x y : List Int, cmpL (t.key ++ x) (u.key ++ y) = cmpI t.size u.size := by
        intro x y
        cases t with | node s ts' =>
        cases u with | node v us' =>
        simp only [Tr.key, List.cons_append]
        rw [cmpL_cons, if_pos]
        unfold cmpI
        split
        · decide
        · split
          · decide
          · omega
      have h2 := h1 [] []
      rw [List.append_nil, List.append_nil] at h2
      have h3 : cmpI (t.size : Int) u.size ≠ 0 := by
        unfold cmpI
        split
        · decide
        · split
          · decide
          · omega
      rw [h2, if_pos h3, h1]
end
theorem Tr.cmp_swap (t u : Tr) : Tr.cmp u t = - Tr.cmp t u := by rw [cmp_key, cmp_key]; exact cmpL_swap _ _
theorem Tr.cmp_le_trans {t u v : Tr} (h1 : Tr.cmp t u ≤ 0) (h2 : Tr.cmp u v ≤ 0) : Tr.cmp t v ≤ 0 := by rw [cmp_key] at *; exact cmpL_le_trans h1 h2
theorem Tr.cmp_trans {t u v : Tr} (h1 : Tr.cmp t u < 0) (h2 : Tr.cmp u v < 0) : Tr.cmp t v < 0 := by rw [cmp_key] at *; exact cmpL_trans h1 h2
theorem Tr.cmp_size_lt {t u : Tr} (h : t.size < u.size) : Tr.cmp t u < 0 := by
  cases t with | node s ts =>
  cases u with | node v us =>
  rw [Tr.cmp]
  have : cmpI ((Tr.node s ts).size : Int) (Tr.node v us).size = -1 := by unfold cmpI; rw [if_pos (by omega)]
  rw [if_pos (by rw [this]; decide), this]; decide
theorem Tr.cmp_size_le {t u : Tr} (h : Tr.cmp t u ≤ 0) : t.size ≤ u.size := by
  by_cases h1 : u.size < t.size
  · have := Tr.cmp_size_lt h1
    rw [Tr.cmp_swap] at this; omega
  · omega
mutual
theorem Tr.cmp_eq : ∀ {t u : Tr}, Tr.cmp t u = 0 → t = u
  | .node s ts, .node v us, h => by
    rw [Tr.cmp] at h
    have hz : ∀ a b : Int, cmpI a b = 0 → a = b := fun a b h => by
      unfold cmpI at h
      split at h
      · cases h
      · split at h
        · cases h
        · omega
    split at h
    · rename_i g; exact absurd h g
    · split at h
      · rename_i g; exact absurd h g
      · rename_i g2
        split at h
        · rename_i g; exact absurd h g
        · rename_i g3
          have h2 := hz _ _ (Decidable.not_not.1 g2)
          have h3 := hz _ _ (Decidable.not_not.1 g3)
          rw [h2, Tr.cmps_eq (by omega) h]
theorem Tr.cmps_eq : ∀ {ts us : List Tr}, ts.length = us.length → Tr.cmps ts us = 0 → ts = us
  | [], [], _, _ => rfl
  | [], _ :: _, h, _ => by cases h
  | _ :: _, [], h, _ => by cases h
  | t :: ts, u :: us, hl, h => by
    rw [Tr.cmps] at h
    split at h
    · rename_i g; exact absurd h g
    · rename_i g
      rw [Tr.cmp_eq (Decidable.not_not.1 g), Tr.cmps_eq (by simpa using hl) h]
end
/-- Lists of the same length, each tree at most the other. -/
def leTs : List Tr → List Tr → Prop
  | [], [] => True
  | t :: ts, u :: us => Tr.cmp t u ≤ 0 ∧ leTs ts us
  | _, _ => False
theorem leTs.len : ∀ {ts us : List Tr}, leTs ts us → ts.length = us.length
  | [], [], _ => rfl
  | _ :: _, _ :: _, h => by simp only [List.length_cons]; rw [leTs.len h.2]
  | [], _ :: _, h => h.elim
  | _ :: _, [], h => h.elim
theorem leTs.sizes : ∀ {ts us : List Tr}, leTs ts us → Tr.sizes ts ≤ Tr.sizes us
  | [], [], _ => Nat.le_refl _
  | t :: ts, u :: us, h => by
    have h1 := Tr.cmp_size_le h.1
    have h2 := leTs.sizes h.2
    rw [Tr.sizes, Tr.sizes]; omega
  | [], _ :: _, h => h.elim
  | _ :: _, [], h => h.elim
theorem leTs.cmps : ∀ {ts us : List Tr}, leTs ts us → Tr.cmps ts us ≤ 0
  | [], [], _ => Int.le_refl _
  | t :: ts, u :: us, h => by
    rw [Tr.cmps]
    split
    · exact h.1
    · exact leTs.cmps h.2
  | [], _ :: _, h => h.elim
  | _ :: _, [], h => h.elim
theorem node_le {s : Int} {ts us : List Tr} (h : leTs ts us) : Tr.cmp (.node s ts) (.node s us) ≤ 0 := by
  have h1 := h.sizes
  by_cases h2 : Tr.sizes ts = Tr.sizes us
  · rw [Tr.cmp]
    have e1 : (Tr.node s ts).size = (Tr.node s us).size := by rw [Tr.size, Tr.size, h2]
    rw [e1, h.len, cmpI_self, cmpI_self, cmpI_self]
    simpa using h.cmps
  · exact Int.le_of_lt (Tr.cmp_size_lt (by rw [Tr.size, Tr.size]; omega))
end Pal

/-
  Least trees of states: the passes over all rules, why they end, and what they find. Own work. No statement of the seat is proved here.
-/
namespace Pal
open Go Go.Proofs Go.Proofs.X
abbrev BT := Int → Option Tr
def argsB (b : BT) : List Int → Option (List Tr)
  | [] => some []
  | q :: qs => match b q with
    | none => none
    | some t => (argsB b qs).map (t :: ·)
def candB (b : BT) (r : Rl) : Option Tr := (argsB b r.args).map (Tr.node r.sym)
def betterB (o : Option Tr) (t : Tr) : Bool := match o with
  | none => true
  | some w => decide (Tr.cmp t w < 0)
def updB (b : BT) (q : Int) (t : Tr) : BT := fun p => if p = q then some t else b p
def newB (b : BT) (r : Rl) : Option Tr := match candB b r with
  | none => none
  | some t => if t.size ≤ 4096 ∧ betterB (b r.to) t = true then some t else none
def stepB (b : BT) (r : Rl) : BT := match newB b r with
  | none => b
  | some t => updB b r.to t
def stepP (s : BT × Bool) (r : Rl) : BT × Bool := (stepB s.1 r, s.2 || (newB s.1 r).isSome)
def passB (rs : List Rl) (b : BT) : BT := rs.foldl stepB b
theorem stepP_fst (rs : List Rl) : ∀ s : BT × Bool, (rs.foldl stepP s).1 = passB rs s.1 := by
  induction rs with
  | nil => intro s; rfl
  | cons r rs ih => intro s; exact ih _
theorem stepP_true (rs : List Rl) : ∀ b : BT, (rs.foldl stepP (b, true)).2 = true := by
  induction rs with
  | nil => intro s; rfl
  | cons r rs ih => intro b; exact ih _
theorem stepP_no {rs : List Rl} : ∀ {b : BT}, (rs.foldl stepP (b, false)).2 = false → (∀ r ∈ rs, newB b r = none) ∧ passB rs b = b := by
  induction rs with
  | nil => intro b _; exact ⟨fun r h => (by cases h), rfl⟩
  | cons r rs ih =>
    intro b h
    have e : rs.foldl stepP (stepP (b, false) r) = rs.foldl stepP (stepB b r, (newB b r).isSome) := by unfold stepP; rw [Bool.false_or]
    rw [List.foldl_cons, e] at h
    cases hn : newB b r with
    | some t => rw [hn] at h; rw [show (some t).isSome = true from rfl, stepP_true] at h; cases h
    | none =>
      have hb : stepB b r = b := by unfold stepB; rw [hn]
      rw [hn, hb] at h
      obtain ⟨h1, h2⟩ := ih h
      refine ⟨fun q hq => ?_, ?_⟩
      · rcases List.mem_cons.1 hq with rfl | hq
        · exact hn
        · exact h1 q hq
      · show passB rs (stepB b r) = b
        rw [hb]; exact h2
/-- Derived by the rules, no state twice on a path, and no worse than the best of each state in it. -/
inductive DB (rs : List Rl) (b : BT) : List Int → Tr → Int → Prop
  | mk {X : List Int} {s q : Int} {ts : List Tr} {qs : List Int} (hr : (⟨s, qs, q⟩ : Rl) ∈ rs) (hX : q ∉ X) (hl : ts.length = qs.length) (hk : ∀ i (h : i < ts.length), DB rs b (q :: X) ts[i] (qs.getD i 0))
      (hw : ∃ w, b q = some w ∧ Tr.cmp w (.node s ts) ≤ 0) : DB rs b X (.node s ts) q
def leB (b' b : BT) : Prop := ∀ p w, b p = some w → ∃ w', b' p = some w' ∧ Tr.cmp w' w ≤ 0
theorem DB.mono {rs : List Rl} {b b' : BT} (h : leB b' b) {X : List Int} {t : Tr} {q : Int} (hd : DB rs b X t q) : DB rs b' X t q := by
  induction hd with
  | mk hr hX hl _ hw ih =>
    obtain ⟨w, h1, h2⟩ := hw
    obtain ⟨w', h3, h4⟩ := h _ w h1
    exact .mk hr hX hl ih ⟨w', h3, Tr.cmp_le_trans h4 h2⟩
theorem child_size {s : Int} {ts : List Tr} {i : Nat} (h : i < ts.length) : ts[i].size < (Tr.node s ts).size := by
  have h1 := Tr.sizes_take ts i h
  have h2 := Tr.sizes_take_le ts (i + 1)
  rw [Tr.size]; omega
theorem DB.avoid {rs : List Rl} {b : BT} {p : Int} {X : List Int} {t : Tr} {q : Int} (hd : DB rs b X t q) : (∀ w, b p = some w → t.size < w.size) → DB rs b (X ++ [p]) t q := by
  induction hd with
  | @mk X s q ts qs hr hX hl _ hw ih =>
    intro hp
    refine .mk hr ?_ hl (fun i h => ?_) hw
    · intro hm
      rcases List.mem_append.1 hm with hm | hm
      · exact hX hm
      · obtain rfl := List.mem_singleton.1 hm
        obtain ⟨w, h1, h2⟩ := hw
        have := hp w h1
        have := Tr.cmp_size_le h2
        omega
    · have := ih i h fun w hb => by have := hp w hb; have := child_size (s := s) h; omega
      rwa [List.cons_append] at this
theorem nodup_range {X : List Int} {n : Nat} (hn : X.Nodup) (hx : ∀ x ∈ X, 0 ≤ x ∧ x < (n : Int)) : X.length ≤ n := by
  have h1 : X ⊆ (List.range n).map fun (i : Nat) => (i : Int) := fun x hm => by
    obtain ⟨h1, h2⟩ := hx x hm
    exact List.mem_map.2 ⟨x.toNat, List.mem_range.2 (by omega), by omega⟩
  have h2 := length_le_of_subset hn fun x hx => h1 hx
  simpa using h2
theorem deeps_le {ts : List Tr} {m : Nat} (h : ∀ i (hi : i < ts.length), ts[i].deep ≤ m) : Tr.deeps ts ≤ m := by
  induction ts with
  | nil => exact Nat.zero_le _
  | cons t r ih =>
    rw [Tr.deeps]
    have h0 := h 0 (by simp)
    have h1 := ih fun i hi => by have := h (i + 1) (by simpa using hi); simpa using this
    have h0' : t.deep ≤ m := h0
    omega
theorem DB.deep {rs : List Rl} {b : BT} {n : Nat} (hto : ∀ r ∈ rs, 0 ≤ r.to ∧ r.to < (n : Int)) {X : List Int} {t : Tr} {q : Int} (hd : DB rs b X t q) : X.Nodup → (∀ x ∈ X, 0 ≤ x ∧ x < (n : Int)) → t.deep + X.length ≤ n := by
  induction hd with
  | @mk X s q ts qs hr hX hl _ hw ih =>
    intro hn hx
    have hn' : (q :: X).Nodup := List.nodup_cons.2 ⟨hX, hn⟩
    have hx' : ∀ x ∈ q :: X, 0 ≤ x ∧ x < (n : Int) := fun x hm => by
      rcases List.mem_cons.1 hm with rfl | hm
      · exact hto _ hr
      · exact hx x hm
    have h1 := nodup_range hn' hx'
    simp only [List.length_cons] at h1
    rw [Tr.deep]
    have h2 : Tr.deeps ts ≤ n - (X.length + 1) := deeps_le fun i hi => by
      have := ih i hi hn' hx'
      simp only [List.length_cons] at this
      omega
    omega
theorem DB.valid {a : Au} {rs : List Rl} (hok : AuOk a) (hsub : ∀ r ∈ rs, r ∈ a.rules) {b : BT} {X : List Int} {t : Tr} {q : Int} (hd : DB rs b X t q) : Tr.nodesErr a.ranks t = 0 := by
  induction hd with
  | @mk X s q ts qs hr hX hl _ hw ih =>
    obtain ⟨r1, r2, r3, _⟩ := hok.ru _ (hsub _ hr)
    refine Tr.nodesErr_zero.2 ⟨⟨r1, r2⟩, by rw [hl]; exact r3, fun t ht => ?_⟩
    obtain ⟨i, hi, rfl⟩ := List.getElem_of_mem ht
    exact ih i hi
theorem argsB_some {b : BT} : ∀ {qs : List Int} {ts : List Tr}, argsB b qs = some ts ↔ ts.length = qs.length ∧ ∀ i (h : i < ts.length), b (qs.getD i 0) = some ts[i]
  | [], ts => by
    simp only [argsB, Option.some.injEq]
    constructor
    · rintro rfl; exact ⟨rfl, fun i h => absurd h (Nat.not_lt_zero _)⟩
    · rintro ⟨h, _⟩; exact (List.length_eq_zero_iff.1 h).symm
  | q :: qs, ts => by
    simp only [argsB]
    cases hb : b q with
    | none =>
      constructor
      · intro h; cases h
      · rintro ⟨h1, h2⟩
        have := h2 0 (by rw [h1]; simp)
        simp only [List.getD_cons_zero] at this
        rw [hb] at this; cases this
    | some t =>
      simp only [Option.map_eq_some_iff]
      constructor
      · rintro ⟨us, h1, rfl⟩
        obtain ⟨g1, g2⟩ := argsB_some.1 h1
        refine ⟨by simp [g1], fun i h => ?_⟩
        cases i with
        | zero => exact hb
        | succ i => exact g2 i (by simpa using h)
      · rintro ⟨h1, h2⟩
        cases ts with
        | nil => simp at h1
        | cons u us =>
          have h0 := h2 0 (by simp)
          simp only [List.getD_cons_zero, List.getElem_cons_zero] at h0
          rw [hb] at h0
          cases h0
          exact ⟨us, argsB_some.2 ⟨by simpa using h1, fun i h => h2 (i + 1) (by simpa using h)⟩, rfl⟩
/-- What holds at all times. -/
def InvB (rs : List Rl) (b : BT) : Prop := ∀ q t, b q = some t → DB rs b [] t q ∧ t.size ≤ 4096
theorem InvB.zero (rs : List Rl) : InvB rs fun _ => none := fun _ _ h => by cases h
theorem newB_some {b : BT} {r : Rl} {t : Tr} (h : newB b r = some t) : (∃ ts, argsB b r.args = some ts ∧ t = .node r.sym ts) ∧ t.size ≤ 4096 ∧ betterB (b r.to) t = true := by
  unfold newB at h
  cases hc : candB b r with
  | none => rw [hc] at h; cases h
  | some u =>
    rw [hc] at h
    simp only [] at h
    split at h
    · rename_i g
      cases h
      unfold candB at hc
      obtain ⟨ts, h1, rfl⟩ := Option.map_eq_some_iff.1 hc
      exact ⟨⟨ts, h1, rfl⟩, g⟩
    · cases h
theorem betterB_some {w t : Tr} (h : betterB (some w) t = true) : Tr.cmp t w < 0 := of_decide_eq_true h
theorem updB_le {b : BT} {q : Int} {t : Tr} (h : betterB (b q) t = true) : leB (updB b q t) b := fun p w hp => by
  unfold updB
  by_cases e : p = q
  · subst e
    rw [hp] at h
    exact ⟨t, if_pos rfl, Int.le_of_lt (betterB_some h)⟩
  · exact ⟨w, by rw [if_neg e]; exact hp, by rw [Tr.cmp_self]; exact Int.le_refl _⟩
theorem InvB.step {rs : List Rl} {b : BT} (h : InvB rs b) {r : Rl} (hr : r ∈ rs) : InvB rs (stepB b r) := by
  unfold stepB
  cases hn : newB b r with
  | none => exact h
  | some t =>
    obtain ⟨⟨ts, ha, rfl⟩, hsz, hbt⟩ := newB_some hn
    have hle := updB_le hbt
    show InvB rs (updB b r.to (.node r.sym ts))
    intro q u hq
    by_cases e : q = r.to
    · have hq' : updB b r.to (.node r.sym ts) q = some (.node r.sym ts) := by unfold updB; rw [if_pos e]
      rw [hq'] at hq
      cases hq
      obtain ⟨h1, h2⟩ := argsB_some.1 ha
      refine ⟨?_, hsz⟩
      rw [e]
      refine .mk (qs := r.args) hr (by simp) h1 (fun i hi => ?_) ⟨_, by unfold updB; rw [if_pos rfl], by rw [Tr.cmp_self]; exact Int.le_refl _⟩
      have h3 := (h _ _ (h2 i hi)).1
      refine (h3.avoid (p := r.to) fun w hw => ?_).mono hle
      rw [hw] at hbt
      have := Tr.cmp_size_le (Int.le_of_lt (betterB_some hbt))
      have := child_size (s := r.sym) hi
      omega
    · have hq' : updB b r.to (.node r.sym ts) q = b q := by unfold updB; rw [if_neg e]
      rw [hq'] at hq
      exact ⟨((h q u hq).1).mono hle, (h q u hq).2⟩
theorem InvB.steps {rs : List Rl} : ∀ {xs : List Rl} {b : BT}, InvB rs b → (∀ r ∈ xs, r ∈ rs) → InvB rs (passB xs b)
  | [], _, h, _ => h
  | r :: xs, _, h, hs => InvB.steps (xs := xs) (h.step (hs r List.mem_cons_self)) fun q hq => hs q (List.mem_cons_of_mem _ hq)
theorem InvB.deep {rs : List Rl} {b : BT} (h : InvB rs b) {n : Nat} (hto : ∀ r ∈ rs, 0 ≤ r.to ∧ r.to < (n : Int)) {q : Int} {t : Tr} (hq : b q = some t) : t.deep ≤ n := by
  have := ((h q t hq).1).deep hto List.nodup_nil (fun x hx => by cases hx)
  simpa using this
theorem InvB.to {rs : List Rl} {b : BT} (h : InvB rs b) {n : Nat} (hto : ∀ r ∈ rs, 0 ≤ r.to ∧ r.to < (n : Int)) {q : Int} {t : Tr} (hq : b q = some t) : 0 ≤ q ∧ q < (n : Int) := by
  have := (h q t hq).1
  cases this with | mk hr => exact hto _ hr
theorem newB_deep {rs : List Rl} {b : BT} (h : InvB rs b) {n : Nat} (hto : ∀ r ∈ rs, 0 ≤ r.to ∧ r.to < (n : Int)) {r : Rl} {ts : List Tr} (ha : argsB b r.args = some ts) : (Tr.node r.sym ts).deep ≤ n + 1 := by
  obtain ⟨h1, h2⟩ := argsB_some.1 ha
  rw [Tr.deep]
  have := deeps_le (m := n) fun i hi => h.deep hto (h2 i hi)
  omega
/-! ### The passes end -/
def univ (m : Nat) : Nat → List Tr
  | 0 => []
  | k + 1 => (List.range m).flatMap fun (s : Nat) => (Tr.node (s : Int) [] :: (univ m k).map fun t => Tr.node (s : Int) [t]) ++ (univ m k).flatMap fun t => (univ m k).map fun u => Tr.node (s : Int) [t, u]
theorem mem_univ {a : Au} (hok : AuOk a) : ∀ (k : Nat) (t : Tr), Tr.nodesErr a.ranks t = 0 → t.deep ≤ k → t ∈ univ a.ranks.length k
  | 0, .node s ts, _, h => by rw [Tr.deep] at h; omega
  | k + 1, .node s ts, hv, h => by
    obtain ⟨⟨h0, h1⟩, h2, h3⟩ := Tr.nodesErr_zero.1 hv
    have hs : s.toNat < a.ranks.length := by omega
    have hrk := hok.rk s.toNat hs
    have hge : a.ranks.getD s.toNat 0 = a.ranks[s.toNat] := by simp [List.getD, hs]
    rw [Tr.deep] at h
    rw [univ]
    refine List.mem_flatMap.2 ⟨s.toNat, List.mem_range.2 hs, ?_⟩
    rw [Int.toNat_of_nonneg h0]
    match ts, h2, h3, h with
    | [], _, _, _ => exact List.mem_append_left _ List.mem_cons_self
    | [t], _, h3, h =>
      rw [Tr.deeps, Tr.deeps] at h
      exact List.mem_append_left _ (List.mem_cons_of_mem _ (List.mem_map.2 ⟨t, mem_univ hok k t (h3 t (by simp)) (by omega), rfl⟩))
    | [t, u], _, h3, h =>
      rw [Tr.deeps, Tr.deeps, Tr.deeps] at h
      exact List.mem_append_right _ (List.mem_flatMap.2 ⟨t, mem_univ hok k t (h3 t (by simp)) (by omega), List.mem_map.2 ⟨u, mem_univ hok k u (h3 u (by simp)) (by omega), rfl⟩⟩)
    | t :: u :: v :: r, h2, _, _ => simp only [List.length_cons] at h2; omega
def belowB (U : List Tr) : Option Tr → Nat
  | none => U.length + 1
  | some t => (U.filter fun u => decide (Tr.cmp u t < 0)).length
theorem below_some (U : List Tr) (t : Tr) : belowB U (some t) ≤ U.length := List.length_filter_le _ _
theorem filter_lt {α : Type} {p q : α → Bool} : ∀ {l : List α}, (∀ x ∈ l, p x = true → q x = true) → (∃ x ∈ l, p x = false ∧ q x = true) → (l.filter p).length < (l.filter q).length
  | [], _, ⟨x, h, _⟩ => by cases h
  | y :: l, h, ⟨x, hx, h1, h2⟩ => by
    have hle : ∀ {l : List α}, (∀ x ∈ l, p x = true → q x = true) → (l.filter p).length ≤ (l.filter q).length := by
      intro l
      induction l with
      | nil => intro _; exact Nat.le_refl _
      | cons z l ih =>
        intro hz
        have := ih fun x hx => hz x (List.mem_cons_of_mem _ hx)
        rw [List.filter_cons, List.filter_cons]
        by_cases e : p z = true
        · rw [if_pos e, if_pos (hz z List.mem_cons_self e)]; simpa using this
        · rw [if_neg e]
          split
          · simp only [List.length_cons]; omega
          · exact this
    rw [List.filter_cons, List.filter_cons]
    rcases List.mem_cons.1 hx with rfl | hx
    · rw [if_neg (by rw [h1]; decide), if_pos h2, List.length_cons]
      exact Nat.lt_succ_of_le (hle fun z hz => h z (List.mem_cons_of_mem _ hz))
    · have := filter_lt (fun z hz => h z (List.mem_cons_of_mem _ hz)) ⟨x, hx, h1, h2⟩
      by_cases e : p y = true
      · rw [if_pos e, if_pos (h y List.mem_cons_self e)]; simpa using this
      · rw [if_neg e]
        split
        · simp only [List.length_cons]; omega
        · exact this
theorem below_lt {U : List Tr} {o : Option Tr} {t : Tr} (hU : t ∈ U) (hb : betterB o t = true) : belowB U (some t) < belowB U o := by
  cases o with
  | none => exact Nat.lt_succ_of_le (below_some U t)
  | some w =>
    have hw := betterB_some hb
    refine filter_lt (fun x _ hx => ?_) ⟨t, hU, by rw [Tr.cmp_self]; rfl, decide_eq_true hw⟩
    exact decide_eq_true (Tr.cmp_trans (of_decide_eq_true hx) hw)
def muB (U : List Tr) (n : Nat) (b : BT) : Nat := ((List.range n).map fun (s : Nat) => belowB U (b (s : Int))).sum
theorem sum_lt {α : Type} {f g : α → Nat} : ∀ {l : List α}, (∀ x ∈ l, f x ≤ g x) → (∃ x ∈ l, f x < g x) → (l.map f).sum < (l.map g).sum
  | [], _, ⟨x, h, _⟩ => by cases h
  | y :: l, h, ⟨x, hx, h1⟩ => by
    have hle : ∀ {l : List α}, (∀ x ∈ l, f x ≤ g x) → (l.map f).sum ≤ (l.map g).sum := by
      intro l
      induction l with
      | nil => intro _; exact Nat.le_refl _
      | cons z l ih =>
        intro hz
        have h1 := ih fun x hx => hz x (List.mem_cons_of_mem _ hx)
        have h2 := hz z List.mem_cons_self
        simp only [List.map_cons, List.sum_cons]; omega
    simp only [List.map_cons, List.sum_cons]
    rcases List.mem_cons.1 hx with rfl | hx
    · have := hle fun z hz => h z (List.mem_cons_of_mem _ hz); omega
    · have := sum_lt (fun z hz => h z (List.mem_cons_of_mem _ hz)) ⟨x, hx, h1⟩
      have := h y List.mem_cons_self; omega
theorem mu_step {a : Au} (hok : AuOk a) {b : BT} (h : InvB a.rules b) {r : Rl} (hr : r ∈ a.rules) : muB (univ a.ranks.length (a.states.toNat + 1)) a.states.toNat (stepB b r) + (if (newB b r).isSome = true then 1 else 0) ≤ muB (univ a.ranks.length (a.states.toNat + 1)) a.states.toNat b := by
  unfold stepB
  cases hn : newB b r with
  | none => exact Nat.le_refl _
  | some t =>
    obtain ⟨⟨ts, ha, rfl⟩, hsz, hbt⟩ := newB_some hn
    have hto : ∀ r ∈ a.rules, 0 ≤ r.to ∧ r.to < (a.states.toNat : Int) := fun r hr => by
      have := (hok.ru r hr).2.2.2.2
      have := hok.st
      omega
    have hv : Tr.nodesErr a.ranks (.node r.sym ts) = 0 := by
      obtain ⟨r1, r2, r3, _⟩ := hok.ru r hr
      obtain ⟨h1, h2⟩ := argsB_some.1 ha
      refine Tr.nodesErr_zero.2 ⟨⟨r1, r2⟩, by rw [h1]; exact r3, fun t ht => ?_⟩
      obtain ⟨i, hi, rfl⟩ := List.getElem_of_mem ht
      exact ((h _ _ (h2 i hi)).1).valid hok fun _ h => h
    have hU := mem_univ hok _ _ hv (newB_deep h hto ha)
    have hrto := hto r hr
    have hlt := below_lt hU hbt
    show muB _ _ (updB b r.to _) + 1 ≤ _
    refine sum_lt (fun s _ => ?_) ⟨r.to.toNat, List.mem_range.2 (by omega), ?_⟩
    · unfold updB
      by_cases e : (s : Int) = r.to
      · rw [if_pos e, e]; exact Nat.le_of_lt hlt
      · rw [if_neg e]; exact Nat.le_refl _
    · unfold updB
      rw [Int.toNat_of_nonneg hrto.1, if_pos rfl]; exact hlt
end Pal

/-
  Least trees: the passes' result is one alone, and no derived tree is smaller. Own work. No statement of the seat is proved here.
-/
namespace Pal
open Go Go.Proofs Go.Proofs.X
def chainB (rs : List Rl) : Nat → BT
  | 0 => fun _ => none
  | n + 1 => passB rs (chainB rs n)
/-- What the passes end with. -/
structure Best (rs : List Rl) (b : BT) : Prop where
  ch : ∃ n, b = chainB rs n
  no : ∀ r ∈ rs, newB b r = none
  fx : passB rs b = b
theorem chain_inv (rs : List Rl) : ∀ n, InvB rs (chainB rs n)
  | 0 => InvB.zero rs
  | n + 1 => (chain_inv rs n).steps fun _ h => h
theorem Best.inv {rs : List Rl} {b : BT} (h : Best rs b) : InvB rs b := by
  obtain ⟨n, rfl⟩ := h.ch
  exact chain_inv rs n
theorem chain_stay {rs : List Rl} {n : Nat} (h : passB rs (chainB rs n) = chainB rs n) : ∀ k, chainB rs (n + k) = chainB rs n
  | 0 => rfl
  | k + 1 => by
    show passB rs (chainB rs (n + k)) = _
    rw [chain_stay h k, h]
theorem Best.uniq {rs : List Rl} {b b' : BT} (h : Best rs b) (h' : Best rs b') : b = b' := by
  obtain ⟨n, rfl⟩ := h.ch
  obtain ⟨m, rfl⟩ := h'.ch
  rcases Nat.le_total n m with hle | hle
  · obtain ⟨k, rfl⟩ := Nat.exists_eq_add_of_le hle
    exact (chain_stay h.fx k).symm
  · obtain ⟨k, rfl⟩ := Nat.exists_eq_add_of_le hle
    exact chain_stay h'.fx k
mutual
theorem size_deep {rk : List Int} (hrk : ∀ x ∈ rk, x ≤ 2) : ∀ t : Tr, Tr.nodesErr rk t = 0 → t.size + 1 ≤ 2 ^ t.deep
  | .node s ts, h => by
    obtain ⟨h0, h1, h2⟩ := Tr.nodesErr_zero.1 h
    have hs : s.toNat < rk.length := by omega
    have hg : rk.getD s.toNat 0 = rk[s.toNat] := by simp [List.getD, hs]
    have hle := hrk _ (List.getElem_mem hs)
    rw [Tr.size, Tr.deep, Nat.pow_succ]
    have hp : 1 ≤ 2 ^ Tr.deeps ts := Nat.one_le_two_pow
    have := sizes_deep hrk ts h2
    have hl : ts.length ≤ 2 := by omega
    match ts, hl with
    | [], _ => simp [Tr.sizes, Tr.deeps]
    | [t], _ =>
      simp only [List.length_cons, List.length_nil] at this
      omega
    | [t, u], _ =>
      simp only [List.length_cons, List.length_nil] at this
      omega
    | _ :: _ :: _ :: _, hl => simp only [List.length_cons] at hl; omega
theorem sizes_deep {rk : List Int} (hrk : ∀ x ∈ rk, x ≤ 2) : ∀ ts : List Tr, (∀ t ∈ ts, Tr.nodesErr rk t = 0) → Tr.sizes ts + ts.length ≤ ts.length * 2 ^ Tr.deeps ts
  | [], _ => by simp [Tr.sizes]
  | t :: ts, h => by
    have h1 := size_deep hrk t (h t List.mem_cons_self)
    have h2 := sizes_deep hrk ts fun u hu => h u (List.mem_cons_of_mem _ hu)
    rw [Tr.sizes, Tr.deeps, List.length_cons]
    have h3 : 2 ^ t.deep ≤ 2 ^ max t.deep (Tr.deeps ts) := Nat.pow_le_pow_right (by decide) (Nat.le_max_left _ _)
    have h4 : ts.length * 2 ^ Tr.deeps ts ≤ ts.length * 2 ^ max t.deep (Tr.deeps ts) := Nat.mul_le_mul_left _ (Nat.pow_le_pow_right (by decide) (Nat.le_max_right _ _))
    rw [Nat.succ_mul]
    omega
end
theorem Best.small {a : Au} (hok : AuOk a) (h6 : a.states ≤ 10) {b : BT} (h : InvB a.rules b) {q : Int} {t : Tr} (hq : b q = some t) : t.deep ≤ 10 ∧ t.size < 1024 := by
  have hto : ∀ r ∈ a.rules, 0 ≤ r.to ∧ r.to < (a.states.toNat : Int) := fun r hr => by
    have := (hok.ru r hr).2.2.2.2
    have := hok.st
    omega
  have hd := h.deep hto hq
  have hd' : t.deep ≤ 10 := by have := hok.st; omega
  have hv := ((h q t hq).1).valid hok fun _ h => h
  have := size_deep (fun x hx => by obtain ⟨i, hi, rfl⟩ := List.getElem_of_mem hx; exact (hok.rk i hi).2) t hv
  have h2 : 2 ^ t.deep ≤ 2 ^ 10 := Nat.pow_le_pow_right (by decide) hd'
  have h3 : 2 ^ 10 = 1024 := by decide
  exact ⟨hd', by omega⟩
/-! ### None is smaller -/
mutual
theorem best_le {a : Au} (hok : AuOk a) (h6 : a.states ≤ 10) {b : BT} (h : Best a.rules b) : ∀ (t : Tr) (q : Int), 0 < t.cnt a.rules q → ∃ w, b q = some w ∧ Tr.cmp w t ≤ 0
  | .node s ts, q, hc => by
    obtain ⟨r, hr, rfl, rfl, h3⟩ := Tr.cnt_pos.1 hc
    obtain ⟨us, hu, hle⟩ := bests_le hok h6 h ts r.args h3
    have hn := h.no r hr
    unfold newB candB at hn
    rw [hu] at hn
    simp only [Option.map_some] at hn
    have hsz : (Tr.node r.sym us).size ≤ 4096 := by
      obtain ⟨h1, h2⟩ := argsB_some.1 hu
      have hl := hok.ru r hr
      have h4 : us.length ≤ 2 := by
        have h5 := hok.rk r.sym.toNat (by omega)
        have h6 : a.ranks.getD r.sym.toNat 0 = a.ranks[r.sym.toNat]'(by omega) := by simp [List.getD, show r.sym.toNat < a.ranks.length by omega]
        have := hl.2.2.1
        omega
      have key : ∀ xs : List Tr, (∀ i (hi : i < xs.length), xs[i].size < 1024) → Tr.sizes xs ≤ xs.length * 1024 := by
        intro xs
        induction xs with
        | nil => intro _; exact Nat.zero_le _
        | cons x xs ih =>
          intro hx
          have a1 := hx 0 (by simp)
          have a2 := ih fun i hi => by have := hx (i + 1) (by simpa using hi); simpa using this
          have a3 : x.size < 1024 := a1
          rw [Tr.sizes, List.length_cons]; omega
      have := key us fun i hi => (Best.small hok h6 h.inv (h2 i hi)).2
      rw [Tr.size]; omega
    cases hb : b r.to with
    | none => rw [hb] at hn; rw [if_pos ⟨hsz, rfl⟩] at hn; cases hn
    | some w =>
      rw [hb] at hn
      have hcm : ¬ Tr.cmp (.node r.sym us) w < 0 := fun hlt => by
        rw [if_pos ⟨hsz, decide_eq_true hlt⟩] at hn; cases hn
      refine ⟨w, rfl, Tr.cmp_le_trans ?_ (node_le hle)⟩
      rw [Tr.cmp_swap]; omega
theorem bests_le {a : Au} (hok : AuOk a) (h6 : a.states ≤ 10) {b : BT} (h : Best a.rules b) : ∀ (ts : List Tr) (qs : List Int), 0 < Tr.cnts a.rules ts qs → ∃ us, argsB b qs = some us ∧ leTs us ts
  | [], [], _ => ⟨[], rfl, trivial⟩
  | [], _ :: _, hc => by simp [Tr.cnts] at hc
  | _ :: _, [], hc => by simp [Tr.cnts] at hc
  | t :: ts, q :: qs, hc => by
    obtain ⟨h1, h2⟩ := Tr.cnts_pos.1 hc
    obtain ⟨w, hw, hle⟩ := best_le hok h6 h t q h1
    obtain ⟨us, hu, hles⟩ := bests_le hok h6 h ts qs h2
    exact ⟨w :: us, by simp only [argsB, hw, hu, Option.map_some], hle, hles⟩
end
theorem DB.cnt {rs : List Rl} {b : BT} {X : List Int} {t : Tr} {q : Int} (hd : DB rs b X t q) : 0 < t.cnt rs q := by
  induction hd with
  | @mk X s q ts qs hr hX hl _ hw ih =>
    refine Tr.cnt_pos.2 ⟨_, hr, rfl, rfl, ?_⟩
    have key : ∀ (ts : List Tr) (qs : List Int), ts.length = qs.length → (∀ i (h : i < ts.length), 0 < ts[i].cnt rs (qs.getD i 0)) → 0 < Tr.cnts rs ts qs := by
      intro ts
      induction ts with
      | nil => intro qs hq _; cases qs with | nil => simp [Tr.cnts] | cons _ _ => cases hq
      | cons t ts ih2 =>
        intro qs hq hh
        cases qs with
        | nil => cases hq
        | cons p qs => exact Tr.cnts_pos.2 ⟨hh 0 (by simp), ih2 qs (by simpa using hq) fun i hi => hh (i + 1) (by simpa using hi)⟩
    exact key ts qs hl ih
/-- The best of some states. -/
def LeastOf (b : BT) (F : Int → Prop) : Option Tr → Prop
  | none => ∀ q, F q → b q = none
  | some t => (∃ q, F q ∧ b q = some t) ∧ ∀ q u, F q → b q = some u → Tr.cmp t u ≤ 0
theorem LeastOf.uniq {b : BT} {F : Int → Prop} : ∀ {o o' : Option Tr}, LeastOf b F o → LeastOf b F o' → o = o'
  | none, none, _, _ => rfl
  | none, some t, h, ⟨⟨q, h1, h2⟩, _⟩ => by rw [h q h1] at h2; cases h2
  | some t, none, ⟨⟨q, h1, h2⟩, _⟩, h => by rw [h q h1] at h2; cases h2
  | some t, some u, ⟨⟨q, h1, h2⟩, h3⟩, ⟨⟨p, g1, g2⟩, g3⟩ => by
    have e1 := h3 p u g1 g2
    have e2 := g3 q t h1 h2
    rw [Tr.cmp_swap] at e2
    rw [Tr.cmp_eq (t := t) (u := u) (by omega)]
end Pal

/-
  Trimming: the states that come about and lead on, the automaton that is left, and its runs. Plain Lean, no program. Own work.
-/
namespace Pal
open Go Go.Proofs Go.Proofs.X
/-! ### Marks -/
def onL (m : List Bool) (q : Int) : Bool := m.getD q.toNat false
theorem onL_get {m : List Bool} {q : Int} {k : Nat} (hk : q.toNat = k) (h : k < m.length) : onL m q = m[k] := by
  unfold onL; rw [hk]; simp [List.getD, h]
/-- The same, or more marks. -/
structure Up (m m' : List Bool) : Prop where
  len : m'.length = m.length
  le : ∀ q, onL m q = true → onL m' q = true
  cnt : m' = m ∨ m.count true < m'.count true
theorem Up.refl (m : List Bool) : Up m m := ⟨rfl, fun _ h => h, .inl rfl⟩
theorem Up.trans {m m' m'' : List Bool} (h : Up m m') (h' : Up m' m'') : Up m m'' := by
  refine ⟨h'.len.trans h.len, fun q hq => h'.le q (h.le q hq), ?_⟩
  rcases h.cnt with rfl | h1
  · exact h'.cnt
  · rcases h'.cnt with rfl | h2
    · exact .inr h1
    · exact .inr (by omega)
theorem Up.back {m m' m'' : List Bool} (h : Up m m') (h' : Up m' m'') (e : m'' = m) : m' = m := by
  subst e
  rcases h.cnt with h1 | h1
  · exact h1
  · rcases h'.cnt with h2 | h2
    · exact h2.symm
    · omega
theorem up_set (m : List Bool) (i : Nat) : Up m (m.set i true) := by
  refine ⟨List.length_set, fun q hq => ?_, ?_⟩
  · unfold onL at *
    by_cases h : i = q.toNat
    · subst h
      by_cases h2 : q.toNat < m.length
      · simp [List.getD, h2]
      · simp [List.getD, h2] at hq
    · simpa [List.getD, List.getElem?_set_ne h] using hq
  · by_cases h : i < m.length
    · by_cases hb : m[i] = true
      · exact .inl (by rw [← hb]; exact List.set_getElem_self h)
      · refine .inr ?_
        have hb2 : m[i] = false := by simpa using hb
        have e1 : m = m.take i ++ false :: m.drop (i + 1) := by
          conv => lhs; rw [← List.take_append_drop i m, List.drop_eq_getElem_cons h, hb2]
        have e2 : m.set i true = m.take i ++ true :: m.drop (i + 1) := by
          rw [List.set_eq_take_append_cons_drop, if_pos h]
        rw [e2]
        conv => lhs; rw [e1]
        rw [List.count_append, List.count_append, List.count_cons, List.count_cons]
        simp
    · exact .inl (List.set_eq_of_length_le (by omega))
theorem set_on {m : List Bool} {i : Nat} (h : i < m.length) {q : Int} (hq : q.toNat = i) : onL (m.set i true) q = true := by
  unfold onL; rw [hq]; simp [List.getD, h]
theorem up_fold {α : Type} {S : List Bool → α → List Bool} (h : ∀ m r, Up m (S m r)) : ∀ (rs : List α) (m : List Bool), Up m (rs.foldl S m)
  | [], m => Up.refl m
  | r :: rs, m => (h m r).trans (up_fold h rs (S m r))
theorem fold_more {α : Type} {S : List Bool → α → List Bool} (h : ∀ m r, Up m (S m r)) {rs : List α} {m : List Bool} {j : Nat} (hj : j < rs.length) :
    decide ((rs.take (j + 1)).foldl S m ≠ m) = (decide (S ((rs.take j).foldl S m) rs[j] ≠ (rs.take j).foldl S m) || decide ((rs.take j).foldl S m ≠ m)) := by
  rw [List.take_succ_eq_append_getElem hj, List.foldl_append]
  show decide (S ((rs.take j).foldl S m) rs[j] ≠ m) = _
  generalize hx : (rs.take j).foldl S m = x
  have h1 : Up m x := hx ▸ up_fold h _ m
  have h2 := h x rs[j]
  rw [← Bool.decide_or]
  refine decide_eq_decide.2 ⟨fun h3 => ?_, fun h3 h4 => ?_⟩
  · by_cases e : x = m
    · left; rw [e] at h3 ⊢; exact h3
    · exact .inr e
  · have e := h1.back h2 h4
    rcases h3 with h3 | h3
    · exact h3 (h4.trans e.symm)
    · exact h3 e
def iterF {α : Type} (F : α → α) : Nat → α → α
  | 0, x => x
  | n + 1, x => F (iterF F n x)
theorem iterF_shift {α : Type} (F : α → α) : ∀ n x, iterF F n (F x) = F (iterF F n x)
  | 0, _ => rfl
  | n + 1, x => congrArg F (iterF_shift F n x)
theorem iterF_fix {α : Type} {F : α → α} {x : α} (h : F x = x) : ∀ n, iterF F n x = x
  | 0 => rfl
  | n + 1 => (congrArg F (iterF_fix h n)).trans h
theorem iterF_add {α : Type} (F : α → α) (k : Nat) (x : α) : ∀ n, iterF F (n + k) x = iterF F n (iterF F k x)
  | 0 => by rw [Nat.zero_add]; rfl
  | n + 1 => by rw [Nat.add_right_comm]; exact congrArg F (iterF_add F k x n)
theorem up_iter {F : List Bool → List Bool} (h : ∀ m, Up m (F m)) (m : List Bool) : ∀ n, Up m (iterF F n m)
  | 0 => Up.refl m
  | n + 1 => (up_iter h m n).trans (h _)
theorem iter_stop {F : List Bool → List Bool} (h : ∀ m, Up m (F m)) : ∀ n m, m.length - m.count true ≤ n → F (iterF F n m) = iterF F n m
  | 0, m, hn => by
    show F m = m
    rcases (h m).cnt with e | e
    · exact e
    · have h1 := List.count_le_length (a := true) (l := F m)
      have h2 := (h m).len
      omega
  | n + 1, m, hn => by
    rcases (h m).cnt with e | e
    · rw [iterF_fix e]; exact e
    · have h1 := List.count_le_length (a := true) (l := F m)
      have h2 := (h m).len
      have h3 := iter_stop h n (F m) (by omega)
      rw [iterF_shift] at h3
      exact h3
theorem iter_same {F : List Bool → List Bool} {m : List Bool} {k n : Nat} (hk : F (iterF F k m) = iterF F k m) (hn : F (iterF F n m) = iterF F n m) : iterF F k m = iterF F n m := by
  rcases Nat.le_total k n with h | h
  · have e := iterF_add F k m (n - k)
    rw [Nat.sub_add_cancel h, iterF_fix hk] at e
    exact e.symm
  · have e := iterF_add F n m (k - n)
    rw [Nat.sub_add_cancel h, iterF_fix hn] at e
    exact e
/-! ### Coming about and leading on -/
def comeS (m : List Bool) (r : Rl) : List Bool := if r.args.all (onL m) = true then m.set r.to.toNat true else m
def leadS (c m : List Bool) (r : Rl) : List Bool := if onL m r.to = true ∧ r.args.all (onL c) = true then r.args.foldl (fun m q => m.set q.toNat true) m else m
theorem up_comeS (m : List Bool) (r : Rl) : Up m (comeS m r) := by
  unfold comeS; split
  · exact up_set _ _
  · exact Up.refl _
theorem up_sets (qs : List Int) (m : List Bool) : Up m (qs.foldl (fun m (q : Int) => m.set q.toNat true) m) := up_fold (fun m q => up_set m _) qs m
theorem up_leadS (c m : List Bool) (r : Rl) : Up m (leadS c m r) := by
  unfold leadS; split
  · exact up_sets _ _
  · exact Up.refl _
def comeF (rs : List Rl) (m : List Bool) : List Bool := rs.foldl comeS m
def leadF (c : List Bool) (rs : List Rl) (m : List Bool) : List Bool := rs.foldl (leadS c) m
theorem up_comeF (rs : List Rl) (m : List Bool) : Up m (comeF rs m) := up_fold up_comeS rs m
theorem up_leadF (c : List Bool) (rs : List Rl) (m : List Bool) : Up m (leadF c rs m) := up_fold (up_leadS c) rs m
def noneL (n : Nat) : List Bool := List.replicate n false
def finL (F : List Int) (n : Nat) : List Bool := F.foldl (fun m (q : Int) => m.set q.toNat true) (noneL n)
def comeA (a : Au) : List Bool := iterF (comeF a.rules) (a.states.toNat + 1) (noneL a.states.toNat)
def leadA (a : Au) : List Bool := iterF (leadF (comeA a) a.rules) (a.states.toNat + 1) (finL a.final a.states.toNat)
theorem comeA_len (a : Au) : (comeA a).length = a.states.toNat := (up_iter (up_comeF a.rules) _ _).len.trans (List.length_replicate ..)
theorem finL_len (F : List Int) (n : Nat) : (finL F n).length = n := (up_sets F _).len.trans (List.length_replicate ..)
theorem leadA_len (a : Au) : (leadA a).length = a.states.toNat := (up_iter (up_leadF _ a.rules) _ _).len.trans (finL_len _ _)
theorem comeA_fix (a : Au) : comeF a.rules (comeA a) = comeA a := iter_stop (up_comeF a.rules) _ _ (by rw [noneL, List.length_replicate]; omega)
theorem leadA_fix (a : Au) : leadF (comeA a) a.rules (leadA a) = leadA a := iter_stop (up_leadF _ a.rules) _ _ (by rw [finL_len]; omega)
/-- What a search finds that stops when nothing changes. -/
theorem comeA_is {a : Au} {k : Nat} (h : comeF a.rules (iterF (comeF a.rules) k (noneL a.states.toNat)) = iterF (comeF a.rules) k (noneL a.states.toNat)) : iterF (comeF a.rules) k (noneL a.states.toNat) = comeA a := iter_same h (comeA_fix a)
theorem leadA_is {a : Au} {k : Nat} (h : leadF (comeA a) a.rules (iterF (leadF (comeA a) a.rules) k (finL a.final a.states.toNat)) = iterF (leadF (comeA a) a.rules) k (finL a.final a.states.toNat)) : iterF (leadF (comeA a) a.rules) k (finL a.final a.states.toNat) = leadA a := iter_same h (leadA_fix a)
def stayA (a : Au) (q : Int) : Bool := onL (comeA a) q && onL (leadA a) q
def cntN (a : Au) (s : Nat) : Nat := ((List.range s).filter fun (x : Nat) => stayA a (x : Int)).length
theorem cntN_succ (a : Au) (s : Nat) : cntN a (s + 1) = cntN a s + if stayA a (s : Int) = true then 1 else 0 := by
  unfold cntN
  rw [List.range_succ, List.filter_append, List.length_append]
  by_cases h : stayA a (s : Int) = true
  · rw [if_pos h, List.filter_cons, h]; rfl
  · rw [if_neg h, List.filter_cons, Bool.not_eq_true _ |>.mp h]; rfl
theorem cntN_mono (a : Au) {x y : Nat} (h : x ≤ y) : cntN a x ≤ cntN a y := by
  induction y with
  | zero => rw [Nat.le_zero.1 h]; exact Nat.le_refl _
  | succ y ih =>
    by_cases e : x = y + 1
    · rw [e]; exact Nat.le_refl _
    · have := ih (by omega)
      have := cntN_succ a y
      omega
theorem cntN_lt (a : Au) {x y : Nat} (h : x < y) (hx : stayA a (x : Int) = true) : cntN a x < cntN a y := by
  have h1 := cntN_mono a (show x + 1 ≤ y from h)
  rw [cntN_succ, if_pos hx] at h1
  omega
theorem cntN_le (a : Au) (s : Nat) : cntN a s ≤ s := by
  unfold cntN; exact Nat.le_trans (List.length_filter_le _ _) (by simp)
def newA (a : Au) (q : Int) : Int := (cntN a q.toNat : Nat)
def keepR (a : Au) (r : Rl) : Bool := stayA a r.to && r.args.all (stayA a)
def newR (a : Au) (r : Rl) : Rl := ⟨r.sym, r.args.map (newA a), newA a r.to⟩
def leftR (a : Au) (rs : List Rl) : List Rl := (rs.filter (keepR a)).map (newR a)
def leftF (a : Au) (F : List Int) : List Int := (F.filter (stayA a)).map (newA a)
def trimA (a : Au) : Au := ⟨a.ranks, (cntN a a.states.toNat : Nat), leftR a a.rules, leftF a a.final⟩
theorem keepR_iff {a : Au} {r : Rl} : keepR a r = true ↔ stayA a r.to = true ∧ ∀ q ∈ r.args, stayA a q = true := by
  unfold keepR; rw [Bool.and_eq_true, List.all_eq_true]
theorem newA_bound {a : Au} {q : Int} (h : stayA a q = true) (h0 : 0 ≤ q ∧ q < a.states) : 0 ≤ newA a q ∧ newA a q < (cntN a a.states.toNat : Nat) := by
  have := cntN_lt a (x := q.toNat) (y := a.states.toNat) (by omega) (by rw [Int.toNat_of_nonneg h0.1]; exact h)
  unfold newA; omega
theorem trimA_ok {a : Au} (ha : AuOk a) : AuOk (trimA a) := by
  have hs := ha.st
  refine ⟨ha.rl, ha.rk, ⟨by show (0 : Int) ≤ (cntN a a.states.toNat : Nat); omega, by have := cntN_le a a.states.toNat; show ((cntN a a.states.toNat : Nat) : Int) ≤ 256; omega⟩, ?_, fun r hr => ?_, fun q hq => ?_⟩
  · show (leftR a a.rules).length ≤ _
    unfold leftR; rw [List.length_map]
    exact Nat.le_trans (List.length_filter_le _ _) ha.ul
  · obtain ⟨x, hx, rfl⟩ := List.mem_map.1 hr
    obtain ⟨hx, hk⟩ := List.mem_filter.1 hx
    obtain ⟨k1, k2, k3, k4, k5, k6⟩ := ha.ru x hx
    obtain ⟨g1, g2⟩ := keepR_iff.1 hk
    have h5 := newA_bound g1 ⟨k5, k6⟩
    refine ⟨k1, k2, by show ((x.args.map (newA a)).length : Int) = _; rw [List.length_map]; exact k3, fun q hq => ?_, h5.1, h5.2⟩
    obtain ⟨y, hy, rfl⟩ := List.mem_map.1 hq
    exact newA_bound (g2 y hy) (k4 y hy)
  · obtain ⟨x, hx, rfl⟩ := List.mem_map.1 hq
    obtain ⟨hx, hk⟩ := List.mem_filter.1 hx
    exact newA_bound hk (ha.fi x hx)
end Pal

/-
  Marks and numbers in a block, asx a walk over Trim meets them. Own work. No statement of the seat is proved here.
-/
namespace Pal
open Go Go.Proofs Go.Proofs.X
def mkL (m : List Bool) : Array Value := (m.map Value.bool).toArray
theorem mkL_size (m : List Bool) : (mkL m).size = m.length := by simp [mkL]
theorem mkL_get {m : List Bool} {q : Int} {off : Nat} (h : q.toNat < m.length) (ho : off = q.toNat) : (mkL m)[off]? = some (.bool (onL m q)) := by
  subst ho
  rw [onL_get rfl h]
  simp [mkL, h]
theorem mkL_put {m : List Bool} {q : Int} {off : Nat} (h : q.toNat < m.length) (ho : off = q.toNat) : putCells (mkL m) off (Value.bool true).cells.toList = mkL (m.set q.toNat true) := by
  subst ho
  have e : putCells (mkL m) q.toNat (Value.bool true).cells.toList = (mkL m).setIfInBounds q.toNat (.bool true) := putCells_one (by rw [mkL_size]; exact h)
  rw [e]
  simp [mkL, List.map_set]
theorem mkL_made (n : Nat) : madeCells #[.bool false] (n * 1) = mkL (noneL n) := by
  rw [made_one]; simp [mkL, noneL]
theorem At.mark {H : View} {b : Nat} {m : List Bool} {q : Int} (h : At H b 0 (mkL m).toList) (hq : q.toNat < m.length) : At H b (0 + q.toNat * 1) [.bool (onL m q)] := by
  rw [Nat.mul_one]
  exact h.one (by rw [Array.getElem?_toList]; exact mkL_get hq rfl)
theorem At.markN {H : View} {b : Nat} {m : List Bool} {s : Nat} (h : At H b 0 (mkL m).toList) (hq : s < m.length) : At H b (0 + s * 1) [.bool (onL m (s : Int))] := h.mark (q := (s : Int)) (by simpa using hq)
def fnC (n : Nat) (f : Nat → Int) : Array Value := ((List.range n).map fun (x : Nat) => Value.int .i64 (f x)).toArray
theorem fnC_size (n : Nat) (f : Nat → Int) : (fnC n f).size = n := by simp [fnC]
theorem fnC_get {n off : Nat} {f : Nat → Int} (h : off < n) : (fnC n f)[off]? = some (.int .i64 (f off)) := by simp [fnC, h]
theorem fnC_put {n off s : Nat} {f g : Nat → Int} {v : Int} (h : s < n) (ho : off = s) (hg : ∀ x, g x = if x = s then v else f x) : putCells (fnC n f) off (Value.int .i64 v).cells.toList = fnC n g := by
  subst ho
  have e : putCells (fnC n f) off (Value.int .i64 v).cells.toList = (fnC n f).setIfInBounds off (.int .i64 v) := putCells_one (by rw [fnC_size]; exact h)
  rw [e]
  apply Array.ext
  · simp [fnC]
  · intro i h1 h2
    have hi : i < n := by rw [fnC_size] at h2; exact h2
    rw [Array.getElem_setIfInBounds (by rw [fnC_size]; exact hi)]
    simp only [fnC, List.getElem_toArray, List.getElem_map, List.getElem_range]
    rw [hg i]
    by_cases e : off = i
    · subst e; simp
    · rw [if_neg e, if_neg (fun h => e h.symm)]
theorem fnC_made (n : Nat) : madeCells #[.int .i64 0] (n * 1) = fnC n (fun _ => 0) := by
  rw [made_one]
  unfold fnC
  congr 1
  refine List.ext_getElem (by simp) fun i h1 h2 => by simp
theorem At.fn {H : View} {b n : Nat} {f : Nat → Int} {q : Int} (h : At H b 0 (fnC n f).toList) (hq : q.toNat < n) : At H b (0 + q.toNat * 1) [.int .i64 (f q.toNat)] := by
  rw [Nat.mul_one]
  exact h.one (by rw [Array.getElem?_toList]; exact fnC_get hq)
def newV (a : Au) (x : Nat) : Int := if stayA a (x : Int) = true then (cntN a x : Nat) else -1
def toF (a : Au) (s : Nat) (x : Nat) : Int := if x < s then newV a x else 0
def toG (a : Au) (s : Nat) (x : Nat) : Int := if x = s then -1 else toF a s x
theorem toF_zero (a : Au) : toF a 0 = fun _ => 0 := by funext x; simp [toF]
theorem toG_is (a : Au) (s x : Nat) : toG a s x = if x = s then -1 else toF a s x := rfl
theorem toF_stay {a : Au} {s : Nat} (h : stayA a (s : Int) = true) (x : Nat) : toF a (s + 1) x = if x = s then ((cntN a s : Nat) : Int) else toG a s x := by
  unfold toF toG toF
  by_cases e : x = s
  · subst e; rw [if_pos (by omega), if_pos rfl]; unfold newV; rw [if_pos h]
  · rw [if_neg e, if_neg e]
    by_cases h2 : x < s
    · rw [if_pos (by omega), if_pos h2]
    · rw [if_neg (by omega), if_neg h2]
theorem toF_gone {a : Au} {s : Nat} (h : stayA a (s : Int) = false) : toG a s = toF a (s + 1) := by
  funext x
  unfold toG toF
  by_cases e : x = s
  · subst e; rw [if_pos rfl, if_pos (by omega)]; unfold newV; rw [if_neg (by rw [h]; decide)]
  · rw [if_neg e]
    by_cases h2 : x < s
    · rw [if_pos h2, if_pos (by omega)]
    · rw [if_neg h2, if_neg (by omega)]
theorem toF_full {a : Au} {n x : Nat} (h : x < n) : toF a n x = newV a x := by unfold toF; rw [if_pos h]
theorem newV_neg {a : Au} {x : Nat} : newV a x < 0 ↔ stayA a (x : Int) = false := by
  unfold newV
  by_cases h : stayA a (x : Int) = true
  · rw [if_pos h, h]; simp
  · rw [if_neg h, Bool.not_eq_true _ |>.mp h]; simp
theorem newV_new {a : Au} {q : Int} (h : stayA a q = true) (h0 : 0 ≤ q) : newV a q.toNat = newA a q := by
  unfold newV newA
  rw [Int.toNat_of_nonneg h0, if_pos h]
theorem set_more {m : List Bool} {q : Int} (h : q.toNat < m.length) : decide (m.set q.toNat true ≠ m) = !onL m q := by
  cases hb : onL m q with
  | true =>
    rw [onL_get rfl h] at hb
    have : m.set q.toNat true = m := by rw [← hb]; exact List.set_getElem_self h
    rw [this]; simp
  | false =>
    have : m.set q.toNat true ≠ m := fun e => by
      have h2 := set_on (m := m) h (q := q) rfl
      rw [e, hb] at h2; cases h2
    simp [this]
theorem come_old {m : List Bool} {r : Rl} (h : r.to.toNat < m.length) (ho : onL m r.to = true) : comeS m r = m := by
  unfold comeS
  split
  · have := set_more h
    rw [ho] at this
    exact Decidable.not_not.1 (of_decide_eq_false this)
  · rfl
theorem come_not {m : List Bool} {r : Rl} (h : r.args.all (onL m) = false) : comeS m r = m := by
  unfold comeS; rw [if_neg (by rw [h]; decide)]
theorem come_new {m : List Bool} {r : Rl} (h : r.to.toNat < m.length) (ho : onL m r.to = false) (ha : r.args.all (onL m) = true) : comeS m r = m.set r.to.toNat true ∧ decide (comeS m r ≠ m) = true := by
  have e : comeS m r = m.set r.to.toNat true := by unfold comeS; rw [if_pos ha]
  refine ⟨e, ?_⟩
  rw [e, set_more h, ho]; rfl
def setsL (m : List Bool) (qs : List Int) : List Bool := qs.foldl (fun m (q : Int) => m.set q.toNat true) m
theorem setsL_len (m : List Bool) (qs : List Int) : (setsL m qs).length = m.length := (up_sets qs m).len
theorem setsL_snoc {m : List Bool} {qs : List Int} {k : Nat} (hk : k < qs.length) : setsL m (qs.take (k + 1)) = (setsL m (qs.take k)).set qs[k].toNat true := by
  unfold setsL
  rw [List.take_succ_eq_append_getElem hk, List.foldl_append]
  rfl
theorem setsL_more {m : List Bool} {qs : List Int} {k : Nat} (hk : k < qs.length) (hq : qs[k].toNat < m.length) : decide (setsL m (qs.take (k + 1)) ≠ m) = (!onL (setsL m (qs.take k)) qs[k] || decide (setsL m (qs.take k) ≠ m)) := by
  have h := fold_more (S := fun m (q : Int) => m.set q.toNat true) (fun m q => up_set m _) (m := m) hk
  rw [← set_more (m := setsL m (qs.take k)) (q := qs[k]) (by rw [setsL_len]; exact hq)]
  exact h
theorem lead_do {c m : List Bool} {r : Rl} (h1 : onL m r.to = true) (h2 : r.args.all (onL c) = true) : leadS c m r = setsL m r.args := by
  unfold leadS; rw [if_pos ⟨h1, h2⟩]; rfl
theorem lead_not {c m : List Bool} {r : Rl} (h : ¬ (onL m r.to = true ∧ r.args.all (onL c) = true)) : leadS c m r = m := by
  unfold leadS; rw [if_neg h]
theorem finL_is (F : List Int) (n : Nat) : setsL (noneL n) F = finL F n := rfl
theorem leftR_snoc {a : Au} {rs : List Rl} {k : Nat} (hk : k < rs.length) : leftR a (rs.take (k + 1)) = leftR a (rs.take k) ++ if keepR a rs[k] = true then [newR a rs[k]] else [] := by
  unfold leftR
  rw [List.take_succ_eq_append_getElem hk, List.filter_append, List.map_append]
  by_cases h : keepR a rs[k] = true
  · rw [if_pos h, List.filter_cons_of_pos h]; rfl
  · rw [if_neg h, List.filter_cons_of_neg h]; rfl
theorem leftF_snoc {a : Au} {F : List Int} {k : Nat} (hk : k < F.length) : leftF a (F.take (k + 1)) = leftF a (F.take k) ++ if stayA a F[k] = true then [newA a F[k]] else [] := by
  unfold leftF
  rw [List.take_succ_eq_append_getElem hk, List.filter_append, List.map_append]
  by_cases h : stayA a F[k] = true
  · rw [if_pos h, List.filter_cons_of_pos h]; rfl
  · rw [if_neg h, List.filter_cons_of_neg h]; rfl
theorem leftR_len (a : Au) (rs : List Rl) : (leftR a rs).length ≤ rs.length := by unfold leftR; rw [List.length_map]; exact List.length_filter_le _ _
theorem leftF_len (a : Au) (F : List Int) : (leftF a F).length ≤ F.length := by unfold leftF; rw [List.length_map]; exact List.length_filter_le _ _
end Pal
namespace Pal
open Go Go.Proofs Go.Proofs.X
/-! ### As the reference trims -/
theorem mkL_putv {m : List Bool} {v : Bool} {i off : Nat} (h : i < m.length) (ho : off = i) : putCells (mkL m) off (Value.bool v).cells.toList = mkL (m.set i v) := by
  subst ho
  have e : putCells (mkL m) off (Value.bool v).cells.toList = (mkL m).setIfInBounds off (.bool v) := putCells_one (by rw [mkL_size]; exact h)
  rw [e]
  simp [mkL, List.map_set]
end Pal
namespace Pal
open Go Go.Proofs Go.Proofs.X
end Pal

/-
  An owned automaton that is read, and changed cell by cell. Own work. No statement of the seat is proved here.
-/
namespace Pal
open Go Go.Proofs Go.Proofs.X
theorem flat_split {α : Type} {f : α → List Value} {qs : List α} {k : Nat} (hk : k < qs.length) : qs.flatMap f = (qs.take k).flatMap f ++ (f qs[k] ++ (qs.drop (k + 1)).flatMap f) := by
  have e : qs = qs.take k ++ qs[k] :: qs.drop (k + 1) := by simp
  conv => lhs; rw [e]
  rw [List.flatMap_append, List.flatMap_cons]
theorem flat_lenN {α : Type} {f : α → List Value} {sz : Nat} (hsz : ∀ x, (f x).length = sz) : ∀ qs : List α, (qs.flatMap f).length = qs.length * sz
  | [] => by simp
  | q :: qs => by rw [List.flatMap_cons, List.length_append, hsz, flat_lenN hsz qs, List.length_cons, Nat.succ_mul]; omega
theorem flat_cell {α : Type} {f : α → List Value} {sz : Nat} (hsz : ∀ x, (f x).length = sz) {qs : List α} {k j off : Nat} {v : Value} (hk : k < qs.length) (ho : off = k * sz + j) (tail : List Value) (hv : (f qs[k])[j]? = some v) : (qs.flatMap f ++ tail).toArray[off]? = some v := by
  subst ho
  have hj : j < (f qs[k]).length := (List.getElem?_eq_some_iff.1 hv).1
  have hl : ((qs.take k).flatMap f).length = k * sz := by rw [flat_lenN hsz, List.length_take, Nat.min_eq_left (by omega)]
  rw [List.getElem?_toArray, flat_split hk, List.append_assoc, List.getElem?_append_right (by omega), hl, Nat.add_sub_cancel_left, List.append_assoc, List.getElem?_append_left hj]
  exact hv
theorem set_mid {α : Type} {qs : List α} {k : Nat} (hk : k < qs.length) (q : α) : qs.take k ++ q :: qs.drop (k + 1) = qs.set k q := by
  rw [List.set_eq_take_append_cons_drop, if_pos hk]
theorem mid_len {α : Type} {qs : List α} {k : Nat} (hk : k < qs.length) (q : α) : (qs.take k ++ q :: qs.drop (k + 1)).length = qs.length := by rw [set_mid hk, List.length_set]
theorem mid_get {α : Type} {qs : List α} {k : Nat} (hk : k < qs.length) (q : α) : (qs.take k ++ q :: qs.drop (k + 1))[k]'(by rw [mid_len hk]; exact hk) = q := by
  have h0 : (qs.take k).length = k := by rw [List.length_take]; omega
  rw [List.getElem_append_right (by omega)]
  simp only [h0, Nat.sub_self, List.getElem_cons_zero]
section rules
variable {P : Program} {n : Nat} {c : Cx} {Q : Exit → Act → World → Prop} {l : KL} {hl : HL} {H : View}
theorem KC_takeAt {code : Code} {ti : TypeId} {ps : List (Rl × Value)} {k : Nat} (hk : k < ps.length) (h : KC P n c code Q l (row ps[k].2 ti 1 ps[k].1.args.length (ints ps[k].1.args) :: many (rowsFrom ti (ps.take k ++ ps.drop (k + 1))) :: hl) H) : KC P n c code Q l (many (rowsFrom ti ps) :: hl) H := by
  have e : ps = ps.take k ++ ps[k] :: ps.drop (k + 1) := by simp
  rw [show rowsFrom ti ps = rowsFrom ti (ps.take k ++ ps[k] :: ps.drop (k + 1)) from congrArg _ e]
  exact KC_takerow _ _ _ h
end rules
end Pal
namespace Pal
open Go Go.Proofs Go.Proofs.X
end Pal
namespace Pal
end Pal

/-
  The tables of a search in the heap. Own work. No statement of the seat is proved here.
-/
namespace Pal
open Go Go.Proofs Go.Proofs.X
/-- A map of choices. -/
def ChP (kvs : KVs) (f : Int → Option Ch) : Prop := (kvs.map (·.1)).Nodup ∧ ∀ q, lookI kvs q = (f q).map chV
theorem ChP.nil : ChP [] (fun _ => none) := ⟨by simp, fun q => by simp [lookI, findI]⟩
theorem ChP.set {kvs : KVs} {f : Int → Option Ch} (h : ChP kvs f) (q : Int) (c : Ch) : ChP (setI kvs q (chV c)) (updF f q c) := by
  refine ⟨setI_keys q _ h.1, fun x => ?_⟩
  rw [lookI_setI h.1]
  unfold updF
  by_cases e : q = x
  · rw [if_pos e.symm, if_pos e]; rfl
  · rw [if_neg (fun h => e h.symm), if_neg e]; exact h.2 x
theorem ChP.val {kvs : KVs} {f : Int → Option Ch} (h : ChP kvs f) (q : Int) : (lookI kvs q).getD (chV ch0) = chV ((f q).getD ch0) := by
  rw [h.2 q]; cases f q <;> rfl
theorem ChP.keys {kvs : KVs} {f : Int → Option Ch} (h : ChP kvs f) (q : Int) : q ∈ kvs.map (·.1) ↔ (f q).isSome = true := by
  rw [← lookI_isSome, h.2 q]; cases f q <;> simp
inductive RepTb (H : View) : Tb → Nat → Prop
  | mk (f : Int → Option Ch) (R : List Int) (kids : List Tb) (b m : Nat) (kvs : KVs) (a : Option Addr) (cap : Nat) (ps : Nat → Nat) (hb : At H b 0 [.slice a kids.length cap, mp m]) (hm : H m = some (mapOb kvs)) (hf : ChP kvs f)
      (hA : ∀ i, i < kids.length → ∃ cb off, a = some ⟨cb, off, none⟩ ∧ At H cb (off + i * 1) [ptr (ps i)]) (hr : ∀ i (h : i < kids.length), RepTb H kids[i] (ps i)) : RepTb H (.mk f R kids) b
theorem RepTb.mono {H H' : View} {tb : Tb} {b : Nat} (h : RepTb H tb b) (hle : VLe H H') : RepTb H' tb b := by
  induction h with
  | mk f R kids b m kvs a cap ps hb hm hf hA hr ih =>
    refine .mk f R kids b m kvs a cap ps (hb.mono hle) (hle _ _ hm) hf (fun i hi => ?_) fun i hi => ih i hi
    obtain ⟨cb, off, e, h⟩ := hA i hi
    exact ⟨cb, off, e, h.mono hle⟩
end Pal
namespace Pal
open Go Go.Proofs Go.Proofs.X
theorem consF_none {f : Int → Option Ch} {c : Ch} {q : Int} (h : f q = none) : consF f (c, q) = updF f q c := by simp [consF, h]
theorem consF_lt {f : Int → Option Ch} {c o : Ch} {q : Int} (h : f q = some o) (hl : cmpL (keyC c) (keyC o) < 0) : consF f (c, q) = updF f q c := by simp [consF, h, hl]
theorem consF_ge {f : Int → Option Ch} {c o : Ch} {q : Int} (h : f q = some o) (hl : ¬ cmpL (keyC c) (keyC o) < 0) : consF f (c, q) = f := by simp [consF, h, hl]
theorem ChP.look {kvs : KVs} {f : Int → Option Ch} (h : ChP kvs f) (q : Int) : (Value.tuple #[(lookI kvs q).getD (chV ch0), .bool (lookI kvs q).isSome]) = .tuple #[chV ((f q).getD ch0), .bool (f q).isSome] := by
  rw [h.val q, h.2 q]; cases f q <;> rfl
end Pal

/-
  A search step by step: the tables asx they grow. Own work. No statement of the seat is proved here.
-/
namespace Pal
open Go Go.Proofs Go.Proofs.X
abbrev FC := Int → Option Ch
def f1 (d : Dt) (s : Int) (R : List Int) (F : FC) : Nat → FC
  | 0 => F
  | j + 1 => consF (f1 d s R F j) (⟨s, R.getD j 0, 0, (j : Int), 0⟩, atI d s (R.getD j 0))
def f2in (d : Dt) (s p : Int) (i : Nat) (T : List Int) (F : FC) : Nat → FC
  | 0 => F
  | k + 1 => consF (f2in d s p i T F k) (⟨s, p, T.getD k 0, (i : Int), (k : Int)⟩, atI d s (p * (d.acc.length : Int) + T.getD k 0))
def f2 (d : Dt) (s : Int) (R T : List Int) (F : FC) : Nat → FC
  | 0 => F
  | i + 1 => f2in d s (R.getD i 0) i T (f2 d s R T F i) T.length
def Bd (d : Dt) (f : FC) : Prop := ∀ q, (f q).isSome = true → 0 ≤ q ∧ q < (d.acc.length : Int)
theorem Bd.none (d : Dt) : Bd d (fun _ => none) := fun q h => by cases h
theorem Bd.cons {d : Dt} {f : FC} (h : Bd d f) (c : Ch) {q : Int} (hq : 0 ≤ q ∧ q < (d.acc.length : Int)) : Bd d (consF f (c, q)) := by
  have hu : Bd d (updF f q c) := fun x hx => by
    unfold updF at hx
    split at hx
    · rename_i e; rw [← e]; exact hq
    · exact h x hx
  cases ho : f q with
  | none => rw [consF_none ho]; exact hu
  | some o =>
    by_cases hl : cmpL (keyC c) (keyC o) < 0
    · rw [consF_lt ho hl]; exact hu
    · rw [consF_ge ho hl]; exact h
def srcL (l rk : List Int) : List (List Int) := (List.range rk.length).map fun (y : Nat) => srcs l (y : Int)
def nilP : Rl × Value := (⟨0, [], 0⟩, nilS)
def headsP (ps : List (Rl × Value)) : Array Value := (ps.map (·.2)).toArray
section rules
variable {P : Program} {n : Nat} {c : Cx} {Q : Exit → Act → World → Prop} {l : KL} {hl : HL} {H : View}
end rules
/-- The symbols below k that go to s. -/
def srcTo (l : List Int) (s k : Nat) : List Int := ((List.range k).filter fun (i : Nat) => decide (l.getD i 0 = (s : Int))).map fun (i : Nat) => (i : Int)
theorem srcTo_succ (l : List Int) (s k : Nat) : srcTo l s (k + 1) = srcTo l s k ++ if l.getD k 0 = (s : Int) then [(k : Int)] else [] := by
  unfold srcTo
  rw [List.range_succ, List.filter_append, List.map_append]
  by_cases h : l.getD k 0 = (s : Int)
  · rw [if_pos h, List.filter_cons, decide_eq_true h]; rfl
  · rw [if_neg h, List.filter_cons, decide_eq_false h]; rfl
theorem srcTo_len (l : List Int) (s k : Nat) : (srcTo l s k).length ≤ k := by
  unfold srcTo; rw [List.length_map]; exact Nat.le_trans (List.length_filter_le _ _) (by simp)
theorem srcTo_all (l : List Int) (s : Nat) : srcTo l s l.length = srcs l (s : Int) := rfl
theorem srcTo_mem {l : List Int} {s k : Nat} {x : Int} (h : x ∈ srcTo l s k) : 0 ≤ x ∧ x < (k : Int) := by
  obtain ⟨i, hi, rfl⟩ := List.mem_map.1 h
  have := List.mem_range.1 (List.mem_filter.1 hi).1
  omega
/-- The rows of sources asx far asx k. -/
structure SrcOk (l : List Int) (n k : Nat) (ps : List (Rl × Value)) : Prop where
  len : ps.length = n
  row : ∀ s (h : s < ps.length), (ps[s]).1 = ⟨0, srcTo l s k, 0⟩
theorem SrcOk.nil (l : List Int) (n : Nat) : SrcOk l n 0 (List.replicate n nilP) := ⟨by simp, fun s h => by simp [nilP, srcTo]⟩
theorem SrcOk.step {l : List Int} {n k : Nat} {ps : List (Rl × Value)} (h : SrcOk l n k ps) {s : Nat} (hs : s < ps.length) (hk : l.getD k 0 = (s : Int)) (v : Value) : SrcOk l n (k + 1) (ps.take s ++ (⟨0, (ps[s]).1.args ++ [(k : Int)], 0⟩, v) :: ps.drop (s + 1)) := by
  refine ⟨by rw [mid_len hs]; exact h.len, fun t ht => ?_⟩
  rw [mid_len hs] at ht
  by_cases e : t = s
  · subst e
    rw [mid_get hs, srcTo_succ, if_pos hk, h.row t hs]
  · have e1 : (ps.take s ++ ((⟨0, (ps[s]).1.args ++ [(k : Int)], 0⟩ : Rl), v) :: ps.drop (s + 1))[t]'(by rw [mid_len hs]; exact ht) = ps[t] := by
      have := set_mid hs ((⟨0, (ps[s]).1.args ++ [(k : Int)], 0⟩ : Rl), v)
      simp only [this]
      rw [List.getElem_set_ne (fun h => e h.symm)]
    rw [e1, srcTo_succ, if_neg (by omega), List.append_nil]
    exact h.row t ht
theorem SrcOk.bounds {l : List Int} {n k : Nat} {ps : List (Rl × Value)} (h : SrcOk l n k ps) (hk : k ≤ 1048576) : ∀ p ∈ ps, RlB p.1 := by
  intro p hp
  obtain ⟨s, hs, rfl⟩ := List.getElem_of_mem hp
  rw [h.row s hs]
  refine ⟨Nat.le_trans (srcTo_len l s k) (by omega), by show i64ok 0; simp [i64ok], by show i64ok 0; simp [i64ok], fun x hx => ?_⟩
  have := srcTo_mem hx
  simp only [i64ok]; omega
theorem SrcOk.ssi {l rk : List Int} {ps : List (Rl × Value)} {H : View} {b cap : Nat} (h : SrcOk l rk.length l.length ps) (hb : At H b 0 (headsP ps).toList) (hv : ∀ p ∈ ps, RVok H p) : SSI H (.slice (some ⟨b, 0, none⟩) (srcL l rk).length cap) (srcL l rk) := by
  have hl : (srcL l rk).length = ps.length := by rw [h.len]; simp [srcL]
  refine ⟨ps.map (·.2), ?_, ?_⟩
  · exact ⟨_, _, rfl, .inr ⟨b, 0, rfl, by simpa [headsP] using hb⟩⟩
  · have e : srcL l rk = ps.map fun p => p.1.args := by
      refine List.ext_getElem (by rw [hl, List.length_map]) fun s h1 h2 => ?_
      have hs : s < ps.length := by rw [← hl]; exact h1
      rw [List.getElem_map, h.row s hs]
      simp [srcL, srcTo_all]
    rw [e]
    have key : ∀ qs : List (Rl × Value), (∀ p ∈ qs, RVok H p) → RepL (RSI H) 1 (qs.map fun p => p.1.args) (qs.map (·.2)) := by
      intro qs
      induction qs with
      | nil => intro _; exact .nil
      | cons q qs ih =>
        intro hq
        exact .cons (cs := [q.2]) ⟨q.2, rfl, (hq q List.mem_cons_self).1⟩ rfl (ih fun p hp => hq p (List.mem_cons_of_mem _ hp))
    exact key ps hv
def accU (d : Dt) (u : Tr) : Bool := d.acc.getD (u.run d).toNat false
def IsWit (d : Dt) (l : List Int) (t : Tr) : Option Tr → Prop
  | none => ∀ u, Tr.relabel l u = some t → accU d u = false
  | some w => (Tr.relabel l w = some t ∧ accU d w = true) ∧ ∀ u, Tr.relabel l u = some t → accU d u = true → cmpL w.code u.code ≤ 0
theorem IsWit.uniq {d : Dt} {l : List Int} {t : Tr} : ∀ {o o' : Option Tr}, IsWit d l t o → IsWit d l t o' → o = o'
  | none, none, _, _ => rfl
  | none, some w, h, h' => by have := h w h'.1.1; rw [h'.1.2] at this; cases this
  | some w, none, h, h' => by have := h' w h.1.1; rw [h.1.2] at this; cases this
  | some w, some w', h, h' => by
    have h1 := h.2 w' h'.1.1 h'.1.2
    have h2 := h'.2 w h.1.1 h.1.2
    rw [cmpL_swap] at h2
    rw [code_inj t w w' h.1.1 h'.1.1 (cmpL_eq.1 (by omega))]
section rules
variable {P : Program} {n : Nat} {c : Cx} {Q : Exit → Act → World → Prop} {l : KL} {hl : HL} {H : View}
theorem KQ_putrowE {x : Exit} {ti : TypeId} {en : Own} (A B : List (Rl × Value)) (p : Rl × Value) (he : en = row p.2 ti 1 p.1.args.length (ints p.1.args)) (h : KQ n c Q x l (many (rowsFrom ti (A ++ p :: B)) :: hl) H) : KQ n c Q x l (en :: many (rowsFrom ti (A ++ B)) :: hl) H := by
  subst he
  exact KQ_putrow A B p h
end rules
end Pal

/-
  All preimages, asx the reference goes through them, and the least of a list. Own work. No statement of the seat is proved here.
-/
namespace Pal
open Go Go.Proofs Go.Proofs.X
def BestI (d : Dt) (L : List Tr) (i : Nat) : Option Nat → Prop
  | none => ∀ k (h : k < L.length), k < i → accU d L[k] = false
  | some b => ∃ hb : b < L.length, b < i ∧ accU d L[b] = true ∧ ∀ k (h : k < L.length), k < i → accU d L[k] = true → cmpL (L[b]).code (L[k]).code ≤ 0
theorem BestI.zero (d : Dt) (L : List Tr) : BestI d L 0 none := fun k _ h => absurd h (Nat.not_lt_zero _)
theorem BestI.skip {d : Dt} {L : List Tr} {i : Nat} (hi : i < L.length) (ha : accU d L[i] = false) : ∀ {o : Option Nat}, BestI d L i o → BestI d L (i + 1) o
  | none, h => fun k hk h2 => by
    by_cases e : k = i
    · subst e; exact ha
    · exact h k hk (by omega)
  | some b, ⟨hb, h1, h2, h3⟩ => ⟨hb, by omega, h2, fun k hk h4 h5 => by
    by_cases e : k = i
    · subst e; rw [ha] at h5; cases h5
    · exact h3 k hk (by omega) h5⟩
theorem BestI.first {d : Dt} {L : List Tr} {i : Nat} (hi : i < L.length) (ha : accU d L[i] = true) (h : BestI d L i none) : BestI d L (i + 1) (some i) :=
  ⟨hi, by omega, ha, fun k hk h4 h5 => by
    by_cases e : k = i
    · subst e; rw [cmpL_self]; exact Int.le_refl _
    · have := h k hk (by omega); rw [this] at h5; cases h5⟩
theorem BestI.less {d : Dt} {L : List Tr} {i b : Nat} (hi : i < L.length) (ha : accU d L[i] = true) (hb : b < L.length) (hl : cmpL (L[i]).code (L[b]).code < 0) (h : BestI d L i (some b)) : BestI d L (i + 1) (some i) := by
  obtain ⟨_, h1, h2, h3⟩ := h
  refine ⟨hi, by omega, ha, fun k hk h4 h5 => ?_⟩
  by_cases e : k = i
  · subst e; rw [cmpL_self]; exact Int.le_refl _
  · exact cmpL_le_trans (by omega) (h3 k hk (by omega) h5)
theorem BestI.stay {d : Dt} {L : List Tr} {i b : Nat} (hi : i < L.length) (hb : b < L.length) (hl : ¬ cmpL (L[i]).code (L[b]).code < 0) (h : BestI d L i (some b)) : BestI d L (i + 1) (some b) := by
  obtain ⟨_, h1, h2, h3⟩ := h
  refine ⟨hb, by omega, h2, fun k hk h4 h5 => ?_⟩
  by_cases e : k = i
  · subst e; rw [cmpL_swap]; omega
  · exact h3 k hk (by omega) h5
end Pal
namespace Pal
open Go Go.Proofs Go.Proofs.X
theorem At.flat {H : View} {b off n sz : Nat} {f : Nat → List Value} (hsz : ∀ i, (f i).length = sz) (hn : 0 < n) (hz : 0 < sz) (h : ∀ i, i < n → At H b (off + i * sz) (f i)) : At H b off ((List.range n).flatMap f) := by
  obtain ⟨c, T, fz, e, _⟩ := h 0 hn
  refine ⟨c, T, fz, e, fun j v hj => ?_⟩
  have hl : ((List.range n).flatMap f).length = n * sz := by rw [flat_lenN hsz, List.length_range]
  have hjl : j < n * sz := by rw [← hl]; exact (List.getElem?_eq_some_iff.1 hj).1
  have hi : j / sz < n := by rw [Nat.div_lt_iff_lt_mul hz]; exact hjl
  have hm : j % sz < (f (j / sz)).length := by rw [hsz]; exact Nat.mod_lt _ hz
  have hrl : j / sz < (List.range n).length := by simpa using hi
  have h1 := flat_cell hsz (qs := List.range n) (k := j / sz) (j := j % sz) (off := j / sz * sz + j % sz) (v := (f (j / sz))[j % sz]) hrl rfl [] (by rw [List.getElem_range]; exact List.getElem?_eq_getElem hm)
  rw [List.append_nil, List.getElem?_toArray, Nat.mul_comm, Nat.div_add_mod] at h1
  rw [h1] at hj
  cases hj
  obtain ⟨c', T', fz', e', h2⟩ := h (j / sz) hi
  rw [e] at e'
  cases e'
  have h3 := h2 (j % sz) _ (List.getElem?_eq_getElem hm)
  have e2 : off + j / sz * sz + j % sz = off + j := by
    have := Nat.div_add_mod j sz
    rw [Nat.mul_comm] at this
    omega
  rwa [e2] at h3
theorem RepL.fn {R : Tr → List Value → Prop} {sz : Nat} {ts : List Tr} {f : Nat → List Value} (h : ∀ i (hi : i < ts.length), R ts[i] (f i) ∧ (f i).length = sz) : RepL R sz ts ((List.range ts.length).flatMap f) := by
  have key : ∀ k, k ≤ ts.length → RepL R sz (ts.take k) ((List.range k).flatMap f) := by
    intro k
    induction k with
    | zero => intro _; exact .nil
    | succ k ih =>
      intro hk
      rw [List.take_succ_eq_append_getElem (by omega), List.range_succ, List.flatMap_append]
      have := (ih (by omega)).snoc (h k (by omega)).1 (h k (by omega)).2
      simpa using this
  have := key ts.length (Nat.le_refl _)
  rwa [List.take_length] at this
theorem _root_.Pal.RepT.inv {H : View} {s : Int} {ts : List Tr} {cs : List Value} (h : RepT H (.node s ts) cs) : ∃ a cap cells, cs = [.int .i64 s, .slice a ts.length cap] ∧ SlAt H (.slice a ts.length cap) ts.length cells ∧ RepL (RepT H) 2 ts cells ∧ i64ok s := by
  cases h with | mk _ _ a cap b off cs' hs ha hA hr =>
  let f : Nat → List Value := fun i => if i < ts.length then cs' i else [.int .i64 0, .int .i64 0]
  have hf : ∀ i, i < ts.length → f i = cs' i := fun i hi => if_pos hi
  have hsz : ∀ i, (f i).length = 2 := fun i => by
    by_cases hi : i < ts.length
    · rw [hf i hi]; exact (hA i hi).1
    · show (if i < ts.length then cs' i else _).length = 2
      rw [if_neg hi]; rfl
  refine ⟨a, cap, (List.range ts.length).flatMap f, rfl, ?_, RepL.fn fun i hi => ⟨by rw [hf i hi]; exact hr i hi, hsz i⟩, hs⟩
  by_cases hn : ts = []
  · subst hn
    exact ⟨_, _, rfl, .inl ⟨rfl, rfl⟩⟩
  · refine ⟨_, _, rfl, .inr ⟨b, off, ha hn, At.flat hsz (List.length_pos_iff.2 hn) (by decide) fun i hi => ?_⟩⟩
    rw [hf i hi]; exact (hA i hi).2
end Pal
namespace Pal
open Go Go.Proofs Go.Proofs.X
end Pal

/-
  Least trees in maps; the passes asx the program goes through them. Own work. No statement of the seat is proved here.
-/
namespace Pal
open Go Go.Proofs Go.Proofs.X
theorem argsB_snoc {b : BT} {qs : List Int} {i : Nat} {ts : List Tr} {t : Tr} (h : argsB b (qs.take i) = some ts) (hi : i < qs.length) (hb : b qs[i] = some t) : argsB b (qs.take (i + 1)) = some (ts ++ [t]) := by
  obtain ⟨h1, h2⟩ := argsB_some.1 h
  rw [List.length_take, Nat.min_eq_left (by omega)] at h1
  refine argsB_some.2 ⟨by rw [List.length_append, List.length_take, h1]; simp; omega, fun j hj => ?_⟩
  rw [List.length_append, h1] at hj
  simp only [List.length_cons, List.length_nil] at hj
  have e1 : (qs.take (i + 1)).getD j 0 = qs.getD j 0 := by simp [List.getD, show j < i + 1 by omega]
  rw [e1]
  by_cases e : j = i
  · subst e
    rw [List.getElem_append_right (by omega)]
    simp only [h1, Nat.sub_self, List.getElem_cons_zero]
    rw [← hb]; simp [List.getD, hi]
  · have hlt : j < ts.length := by omega
    rw [List.getElem_append_left hlt]
    have := h2 j hlt
    rw [← this]
    simp [List.getD, show j < i by omega]
theorem argsB_none {b : BT} {qs : List Int} {i : Nat} (hi : i < qs.length) (hb : b qs[i] = none) : argsB b qs = none := by
  cases h : argsB b qs with
  | none => rfl
  | some ts =>
    obtain ⟨h1, h2⟩ := argsB_some.1 h
    have := h2 i (by omega)
    rw [show qs.getD i 0 = qs[i] by simp [List.getD, hi], hb] at this
    cases this
theorem newB_none {b : BT} {r : Rl} (h : argsB b r.args = none) : newB b r = none := by unfold newB candB; rw [h]; rfl
theorem newB_is {b : BT} {r : Rl} {ts : List Tr} (h : argsB b r.args = some ts) : newB b r = if (Tr.node r.sym ts).size ≤ 4096 ∧ betterB (b r.to) (.node r.sym ts) = true then some (.node r.sym ts) else none := by unfold newB candB; rw [h]; rfl
/-! ### In a map -/
def BestM (H : View) (kvs : KVs) (b : BT) : Prop := (kvs.map (·.1)).Nodup ∧ ∀ q, match b q with
  | none => lookI kvs q = none
  | some t => ∃ cs, lookI kvs q = some (.agg cs.toArray) ∧ RepT H t cs
theorem BestM.zero (H : View) : BestM H [] fun _ => none := ⟨List.nodup_nil, fun _ => rfl⟩
theorem BestM.no {H : View} {kvs : KVs} {b : BT} (h : BestM H kvs b) {q : Int} (hb : b q = none) : lookI kvs q = none := by
  have := h.2 q
  rw [hb] at this
  exact this
theorem BestM.yes {H : View} {kvs : KVs} {b : BT} (h : BestM H kvs b) {q : Int} {t : Tr} (hb : b q = some t) : ∃ y0 y1 y2 y3, lookI kvs q = some (.agg #[.int .i64 y0, .slice y1 y2 y3]) ∧ RepT H t [.int .i64 y0, .slice y1 y2 y3] := by
  have := h.2 q
  rw [hb] at this
  obtain ⟨cs, h1, h2⟩ := this
  obtain ⟨y0, y1, y2, y3, rfl⟩ := h2.shape
  exact ⟨y0, y1, y2, y3, h1, h2⟩
theorem BestM.mono {H H' : View} {kvs : KVs} {b : BT} (h : BestM H kvs b) (hle : VLe H H') : BestM H' kvs b := by
  refine ⟨h.1, fun q => ?_⟩
  have := h.2 q
  cases hb : b q with
  | none => rw [hb] at this; exact this
  | some t =>
    rw [hb] at this
    obtain ⟨cs, h1, h2⟩ := this
    exact ⟨cs, h1, h2.mono hle⟩
theorem BestM.set {H : View} {kvs : KVs} {b : BT} (h : BestM H kvs b) {q : Int} {t : Tr} {cs : List Value} (hr : RepT H t cs) : BestM H (setI kvs q (.agg cs.toArray)) (updB b q t) := by
  refine ⟨setI_keys _ _ h.1, fun p => ?_⟩
  rw [lookI_setI h.1]
  unfold updB
  by_cases e : p = q
  · rw [if_pos e, if_pos e]; exact ⟨cs, rfl, hr⟩
  · rw [if_neg e, if_neg e]; exact h.2 p
theorem BestM.key {H : View} {kvs : KVs} {b : BT} (h : BestM H kvs b) {i : Nat} {q : Int} {u : Value} (hk : kvs[i]? = some (q, u)) : ∃ t y0 y1 y2 y3, b q = some t ∧ u = .agg #[.int .i64 y0, .slice y1 y2 y3] ∧ RepT H t [.int .i64 y0, .slice y1 y2 y3] := by
  have hl := lookI_mem h.1 (List.mem_of_getElem? hk)
  cases hb : b q with
  | none => rw [h.no hb] at hl; cases hl
  | some t =>
    obtain ⟨y0, y1, y2, y3, h1, h2⟩ := h.yes hb
    rw [hl] at h1
    cases h1
    exact ⟨t, y0, y1, y2, y3, rfl, rfl, h2⟩
theorem BestM.mem {H : View} {kvs : KVs} {b : BT} (h : BestM H kvs b) {q : Int} {t : Tr} (hb : b q = some t) : q ∈ kvs.map (·.1) := by
  obtain ⟨y0, y1, y2, y3, h1, _⟩ := h.yes hb
  exact lookI_isSome.1 (by rw [h1]; rfl)
/-! ### The passes' measure -/
theorem stepP_is (s : BT × Bool) (r : Rl) : stepP s r = (stepB s.1 r, s.2 || (newB s.1 r).isSome) := rfl
def passP (rs : List Rl) (b : BT) : BT × Bool := rs.foldl stepP (b, false)
theorem passP_fst (rs : List Rl) (b : BT) : (passP rs b).1 = passB rs b := stepP_fst rs _
theorem passP_succ {rs : List Rl} {k : Nat} (hk : k < rs.length) (b : BT) : passP (rs.take (k + 1)) b = stepP (passP (rs.take k) b) rs[k] := by
  unfold passP
  rw [List.take_succ_eq_append_getElem hk, List.foldl_append]; rfl
theorem passP_inv {rs : List Rl} {b : BT} (h : InvB rs b) (k : Nat) : InvB rs (passP (rs.take k) b).1 := by
  rw [passP_fst]
  exact h.steps fun r hr => List.mem_of_mem_take hr
def UA (a : Au) : List Tr := univ a.ranks.length (a.states.toNat + 1)
def muA (a : Au) (b : BT) : Nat := muB (UA a) a.states.toNat b
theorem mu_pass {a : Au} (hok : AuOk a) {b : BT} (h : InvB a.rules b) : ∀ k, k ≤ a.rules.length → muA a (passP (a.rules.take k) b).1 + (if (passP (a.rules.take k) b).2 = true then 1 else 0) ≤ muA a b
  | 0, _ => Nat.le_refl _
  | k + 1, hk => by
    have ih := mu_pass hok h k (by omega)
    have hi := passP_inv h k
    have := mu_step hok hi (List.getElem_mem (show k < a.rules.length by omega))
    rw [passP_succ (by omega), stepP_is]
    generalize passP (a.rules.take k) b = s at *
    have e : muA a (stepB s.1 a.rules[k]) + (if (newB s.1 a.rules[k]).isSome = true then 1 else 0) ≤ muA a s.1 := this
    dsimp only
    cases h1 : (newB s.1 a.rules[k]).isSome <;> cases h2 : s.2 <;> rw [h1] at e <;> rw [h2] at ih <;> simp only [Bool.or_self, Bool.or_true, Bool.or_false, if_true, if_false, Bool.false_eq_true] at * <;> omega
theorem Best.of {a : Au} {b : BT} (hc : ∃ n, b = chainB a.rules n) (hf : (passP a.rules b).2 = false) : Best a.rules b := by
  obtain ⟨h1, h2⟩ := stepP_no hf
  exact ⟨hc, h1, h2⟩
/-! ### The least of a map's trees -/
theorem LeastOf.skip {b : BT} {F : Int → Prop} {o : Option Tr} (h : LeastOf b F o) (G : Int → Prop) (hG : ∀ p, G p → F p) (hF : ∀ p, F p → G p) : LeastOf b G o := by
  cases o with
  | none => exact fun p hp => h p (hG p hp)
  | some t =>
    obtain ⟨⟨p, h1, h2⟩, h3⟩ := h
    exact ⟨⟨p, hF p h1, h2⟩, fun p u hp => h3 p u (hG p hp)⟩
theorem LeastOf.first {b : BT} {F G : Int → Prop} {q : Int} {t : Tr} (h : LeastOf b F none) (hb : b q = some t) (hG : ∀ p, G p ↔ F p ∨ p = q) : LeastOf b G (some t) := by
  refine ⟨⟨q, (hG q).2 (.inr rfl), hb⟩, fun p u hp hu => ?_⟩
  rcases (hG p).1 hp with hp | rfl
  · rw [h p hp] at hu; cases hu
  · rw [hb] at hu; cases hu; rw [Tr.cmp_self]; exact Int.le_refl _
theorem LeastOf.less {b : BT} {F G : Int → Prop} {q : Int} {t w : Tr} (h : LeastOf b F (some w)) (hb : b q = some t) (hG : ∀ p, G p ↔ F p ∨ p = q) (hl : Tr.cmp t w < 0) : LeastOf b G (some t) := by
  refine ⟨⟨q, (hG q).2 (.inr rfl), hb⟩, fun p u hp hu => ?_⟩
  rcases (hG p).1 hp with hp | rfl
  · exact Tr.cmp_le_trans (Int.le_of_lt hl) (h.2 p u hp hu)
  · rw [hb] at hu; cases hu; rw [Tr.cmp_self]; exact Int.le_refl _
theorem LeastOf.stay {b : BT} {F G : Int → Prop} {q : Int} {t w : Tr} (h : LeastOf b F (some w)) (hb : b q = some t) (hG : ∀ p, G p ↔ F p ∨ p = q) (hl : ¬ Tr.cmp t w < 0) : LeastOf b G (some w) := by
  obtain ⟨⟨p, h1, h2⟩, h3⟩ := h
  refine ⟨⟨p, (hG p).2 (.inl h1), h2⟩, fun p u hp hu => ?_⟩
  rcases (hG p).1 hp with hp | rfl
  · exact h3 p u hp hu
  · rw [hb] at hu; cases hu; rw [Tr.cmp_swap]; omega
theorem cmp_or (x y : Int) (ts us : List Tr) : ((([cmpI (Tr.node x ts).size (Tr.node y us).size, cmpI x y, cmpI ts.length us.length]).find? fun x => decide (x ≠ 0)).getD 0 ≠ 0 → Tr.cmp (.node x ts) (.node y us) = (([cmpI (Tr.node x ts).size (Tr.node y us).size, cmpI x y, cmpI ts.length us.length]).find? fun x => decide (x ≠ 0)).getD 0) ∧
    (¬ (([cmpI (Tr.node x ts).size (Tr.node y us).size, cmpI x y, cmpI ts.length us.length]).find? fun x => decide (x ≠ 0)).getD 0 ≠ 0 → ts.length = us.length ∧ Tr.cmp (.node x ts) (.node y us) = Tr.cmps ts us) := by
  have hz : ∀ a b : Int, cmpI a b = 0 → a = b := fun a b h => by
    unfold cmpI at h
    split at h
    · cases h
    · split at h
      · cases h
      · omega
  rw [Tr.cmp]
  by_cases h1 : cmpI (Tr.node x ts).size (Tr.node y us).size = 0
  · by_cases h2 : cmpI x y = 0
    · by_cases h3 : cmpI ts.length us.length = 0
      · have := hz _ _ h3
        simp [h1, h2, h3]; omega
      · simp [h1, h2, h3]
    · simp [h1, h2]
  · simp [h1]
end Pal
namespace Pal
open Go Go.Proofs Go.Proofs.X
theorem args_sizes {rs : List Rl} {b : BT} (h : InvB rs b) {qs : List Int} {ts : List Tr} (ha : argsB b qs = some ts) : Tr.sizes ts ≤ ts.length * 4096 := by
  obtain ⟨h1, h2⟩ := argsB_some.1 ha
  have key : ∀ xs : List Tr, (∀ i (hi : i < xs.length), xs[i].size ≤ 4096) → Tr.sizes xs ≤ xs.length * 4096 := by
    intro xs
    induction xs with
    | nil => intro _; exact Nat.zero_le _
    | cons x xs ih =>
      intro hx
      have a1 : x.size ≤ 4096 := hx 0 (by simp)
      have a2 := ih fun i hi => by have := hx (i + 1) (by simpa using hi); simpa using this
      rw [Tr.sizes, List.length_cons]; omega
  exact key ts fun i hi => (h _ _ (h2 i hi)).2
theorem rank_two {a : Au} (hok : AuOk a) {r : Rl} (hr : r ∈ a.rules) : r.args.length ≤ 2 := by
  have hl := hok.ru r hr
  have h5 := hok.rk r.sym.toNat (by omega)
  have h6 : a.ranks.getD r.sym.toNat 0 = a.ranks[r.sym.toNat]'(by omega) := by simp [List.getD, show r.sym.toNat < a.ranks.length by omega]
  have := hl.2.2.1
  omega
end Pal
namespace Pal
open Go Go.Proofs Go.Proofs.X
theorem LeastOf.all {b : BT} {K : List Int} {F : Int → Prop} : ∀ {o : Option Tr}, LeastOf b (fun p => p ∈ K ∧ F p) o → (∀ p t, b p = some t → p ∈ K) → LeastOf b F o
  | none, h, hk => fun q hq => by
    cases hb : b q with
    | none => rfl
    | some t => have := h q ⟨hk q t hb, hq⟩; rw [hb] at this; exact this
  | some t, ⟨⟨q, h1, h2⟩, h3⟩, hk => ⟨⟨q, h1.2, h2⟩, fun p u hp hu => h3 p u ⟨hk p u hu, hp⟩ hu⟩
theorem keys_yes {F : Int → Bool} {K : List Int} {q : Int} (h : F q = true) (p : Int) : (p ∈ K ++ [q] ∧ F p = true) ↔ (p ∈ K ∧ F p = true) ∨ p = q := by
  rw [List.mem_append, List.mem_singleton]
  constructor
  · rintro ⟨h1 | h1, h2⟩
    · exact .inl ⟨h1, h2⟩
    · exact .inr h1
  · rintro (⟨h1, h2⟩ | rfl)
    · exact ⟨.inl h1, h2⟩
    · exact ⟨.inr rfl, h⟩
theorem keys_no {F : Int → Bool} {K : List Int} {q : Int} (h : F q = false) (p : Int) : (p ∈ K ++ [q] ∧ F p = true) → (p ∈ K ∧ F p = true) := by
  rw [List.mem_append, List.mem_singleton]
  rintro ⟨h1 | rfl, h2⟩
  · exact ⟨h1, h2⟩
  · rw [h] at h2; cases h2
end Pal

/-
  Numbers of trees by size and state; maps of numbers. Own work. No statement of the seat is proved here.
-/
namespace Pal
open Go Go.Proofs Go.Proofs.X
def sumN (n : Nat) (f : Nat → Nat) : Nat := ((List.range n).map f).sum
theorem sumN_succ (n : Nat) (f : Nat → Nat) : sumN (n + 1) f = sumN n f + f n := by unfold sumN; rw [List.range_succ, List.map_append, List.sum_append]; simp
theorem sumN_zero (f : Nat → Nat) : sumN 0 f = 0 := rfl
theorem sumN_congr {n : Nat} {f g : Nat → Nat} (h : ∀ i, i < n → f i = g i) : sumN n f = sumN n g := by
  unfold sumN
  rw [List.map_congr_left fun i hi => h i (List.mem_range.1 hi)]
theorem sumN_le {n : Nat} {f g : Nat → Nat} (h : ∀ i, i < n → f i ≤ g i) : sumN n f ≤ sumN n g := by
  induction n with
  | zero => exact Nat.le_refl _
  | succ n ih =>
    rw [sumN_succ, sumN_succ]
    have h1 := ih fun i hi => h i (by omega)
    have h2 := h n (by omega)
    omega
theorem sumN_const (n c : Nat) : sumN n (fun _ => c) = n * c := by
  induction n with
  | zero => simp [sumN_zero]
  | succ n ih => rw [sumN_succ, ih, Nat.succ_mul]
theorem sumN_bound {n B : Nat} {f : Nat → Nat} (h : ∀ i, i < n → f i ≤ B) : sumN n f ≤ n * B := by
  rw [← sumN_const]; exact sumN_le h
theorem sumN_mono {m n : Nat} (f : Nat → Nat) (h : m ≤ n) : sumN m f ≤ sumN n f := by
  induction n with
  | zero => have : m = 0 := by omega
            subst this; exact Nat.le_refl _
  | succ n ih =>
    by_cases e : m = n + 1
    · subst e; exact Nat.le_refl _
    · rw [sumN_succ]; have := ih (by omega); omega
/-- The trees of a size whose root has a given symbol, with a given state. -/
def term1 (d : Dt) (c : Nat → Int → Nat) (sym n : Nat) (q x : Int) : Nat := if atM d (sym : Int) [x] = q then c (n - 1) x else 0
def term2 (d : Dt) (c : Nat → Int → Nat) (sym n i : Nat) (q x y : Int) : Nat := if atM d (sym : Int) [x, y] = q then c i x * c (n - 1 - i) y else 0
def termD (d : Dt) (c : Nat → Int → Nat) (sym n : Nat) (q : Int) : Nat :=
  if n = 0 then 0 else if d.ranks.getD sym 0 = 0 then (if n = 1 then (if atM d (sym : Int) [] = q then 1 else 0) else 0)
  else if d.ranks.getD sym 0 = 1 then sumN d.acc.length fun x => term1 d c sym n q (x : Int)
  else sumN (n - 2) fun j => sumN d.acc.length fun x => sumN d.acc.length fun y => term2 d c sym n (j + 1) q (x : Int) (y : Int)
def rowD (d : Dt) (c : Nat → Int → Nat) (n : Nat) (q : Int) : Nat := sumN d.ranks.length fun sym => termD d c sym n q
theorem termD_congr {d : Dt} {c c' : Nat → Int → Nat} {sym n : Nat} (h : ∀ i, i < n → ∀ q, c i q = c' i q) (q : Int) : termD d c sym n q = termD d c' sym n q := by
  unfold termD
  by_cases h0 : n = 0
  · rw [if_pos h0, if_pos h0]
  rw [if_neg h0, if_neg h0]
  split
  · rfl
  split
  · exact sumN_congr fun x _ => by unfold term1; rw [h _ (by omega)]
  · refine sumN_congr fun j hj => sumN_congr fun x _ => sumN_congr fun y _ => ?_
    unfold term2
    rw [h _ (by omega), h _ (by omega)]
def cF (d : Dt) : Nat → Nat → Int → Nat
  | 0, _, _ => 0
  | f + 1, n, q => rowD d (cF d f) n q
def cD (d : Dt) (n : Nat) (q : Int) : Nat := cF d (n + 1) n q
theorem cF_stable (d : Dt) : ∀ (n f : Nat), n < f → ∀ q, cF d f n q = cD d n q := by
  intro n
  induction n using Nat.strongRecOn with | _ n ih =>
  intro f hf q
  obtain ⟨f, rfl⟩ : ∃ g, f = g + 1 := ⟨f - 1, by omega⟩
  show sumN d.ranks.length (fun sym => termD d (cF d f) sym n q) = sumN d.ranks.length (fun sym => termD d (cF d n) sym n q)
  refine sumN_congr fun sym _ => termD_congr (fun i hi q => ?_) q
  rw [ih i hi f (by omega), ih i hi n hi]
theorem cD_eq (d : Dt) (n : Nat) (q : Int) : cD d n q = sumN d.ranks.length fun sym => termD d (cD d) sym n q := by
  show sumN d.ranks.length (fun sym => termD d (cF d n) sym n q) = _
  exact sumN_congr fun sym _ => termD_congr (fun i hi q => cF_stable d i n hi q) q
/-- The part of a row up to a symbol. -/
def partD (d : Dt) (n k : Nat) (q : Int) : Nat := sumN k fun sym => termD d (cD d) sym n q
theorem partD_all (d : Dt) (n : Nat) (q : Int) : partD d n d.ranks.length q = cD d n q := (cD_eq d n q).symm
theorem term_bound {d : Dt} (hn : d.acc.length ≤ 8) {n : Nat} (h64 : n ≤ 64) (ih : ∀ i, i < n → ∀ q, cD d i q ≤ 32768 ^ i) (sym : Nat) (q : Int) : termD d (cD d) sym n q * 8 ≤ 32768 ^ n := by
  unfold termD
  by_cases h0 : n = 0
  · rw [if_pos h0, Nat.zero_mul]; exact Nat.zero_le _
  rw [if_neg h0]
  obtain ⟨m, rfl⟩ : ∃ m, n = m + 1 := ⟨n - 1, by omega⟩
  have hp : 1 ≤ 32768 ^ m := Nat.one_le_pow _ _ (by decide)
  rw [Nat.pow_succ]
  split
  · split
    · split <;> omega
    · omega
  split
  · have : sumN d.acc.length (fun x => term1 d (cD d) sym (m + 1) q (x : Int)) ≤ d.acc.length * 32768 ^ m := sumN_bound fun x _ => by
      unfold term1
      split
      · exact ih m (by omega) _
      · exact Nat.zero_le _
    have h2 : d.acc.length * 32768 ^ m ≤ 8 * 32768 ^ m := Nat.mul_le_mul_right _ hn
    omega
  · have h1 : ∀ j, j < m + 1 - 2 → (sumN d.acc.length fun x => sumN d.acc.length fun y => term2 d (cD d) sym (m + 1) (j + 1) q (x : Int) (y : Int)) ≤ 64 * 32768 ^ m := fun j hj => by
      have hb : ∀ x y : Int, term2 d (cD d) sym (m + 1) (j + 1) q x y ≤ 32768 ^ m := fun x y => by
        unfold term2
        split
        · refine Nat.le_trans (Nat.mul_le_mul (ih (j + 1) (by omega) x) (ih (m + 1 - 1 - (j + 1)) (by omega) y)) ?_
          rw [← Nat.pow_add]
          exact Nat.pow_le_pow_right (by decide) (by omega)
        · exact Nat.zero_le _
      have h2 : ∀ x, x < d.acc.length → (sumN d.acc.length fun y => term2 d (cD d) sym (m + 1) (j + 1) q (x : Int) (y : Int)) ≤ 8 * 32768 ^ m := fun x _ => Nat.le_trans (sumN_bound fun y _ => hb _ _) (Nat.mul_le_mul_right _ hn)
      have h3 := sumN_bound h2
      have h4 : d.acc.length * (8 * 32768 ^ m) ≤ 8 * (8 * 32768 ^ m) := Nat.mul_le_mul_right _ hn
      omega
    have h5 := sumN_bound h1
    have h6 : (m + 1 - 2) * (64 * 32768 ^ m) ≤ 62 * (64 * 32768 ^ m) := Nat.mul_le_mul_right _ (by omega)
    omega
theorem cD_bound {d : Dt} (h8 : d.ranks.length ≤ 8) (hn : d.acc.length ≤ 8) : ∀ n, n ≤ 64 → ∀ q, cD d n q ≤ 32768 ^ n := by
  intro n
  induction n using Nat.strongRecOn with | _ n ih =>
  intro h64 q
  rw [cD_eq]
  have h1 := fun sym => term_bound hn h64 (fun i hi => ih i hi (by omega)) sym q
  have h2 : sumN d.ranks.length (fun sym => termD d (cD d) sym n q) * 8 ≤ d.ranks.length * 32768 ^ n := by
    have key : ∀ k, sumN k (fun sym => termD d (cD d) sym n q) * 8 ≤ k * 32768 ^ n := by
      intro k
      induction k with
      | zero => simp [sumN_zero]
      | succ k ihk => rw [sumN_succ, Nat.succ_mul]; have := h1 k; omega
    exact key _
  have h3 : d.ranks.length * 32768 ^ n ≤ 8 * 32768 ^ n := Nat.mul_le_mul_right _ h8
  omega
theorem words31 : 4294967296 ^ 31 ≤ bigN := by
  rw [bigN_eq]
  exact Nat.pow_le_pow_right (by decide) (by rw [kWords_eq]; decide)
theorem pow64_big {n : Nat} (h : n ≤ 64) : 64 * 32768 ^ n < bigN := by
  have h1 : 32768 ^ n ≤ 32768 ^ 64 := Nat.pow_le_pow_right (by decide) h
  have h3 : 64 * 32768 ^ 64 < 4294967296 ^ 31 := by decide
  exact Nat.lt_of_lt_of_le (Nat.lt_of_le_of_lt (Nat.mul_le_mul_left _ h1) h3) words31
theorem cD_big {d : Dt} (h8 : d.ranks.length ≤ 8) (hn : d.acc.length ≤ 8) {n : Nat} (h : n ≤ 64) (q : Int) : 64 * cD d n q < bigN :=
  Nat.lt_of_le_of_lt (Nat.mul_le_mul_left _ (cD_bound h8 hn n h q)) (pow64_big h)
/-! ### Maps of numbers -/
def CntM (H : View) (n : Nat) (kvs : KVs) (f : Int → Nat) : Prop := (kvs.map (·.1)).Nodup ∧ (∀ q ∈ kvs.map (·.1), 0 ≤ q ∧ q < (n : Int)) ∧ (∀ q, NatAt H ((lookI kvs q).getD natZ) (f q)) ∧ ∀ q, lookI kvs q = none → f q = 0
theorem natAt_zero (H : View) : NatAt H natZ 0 := ⟨none, 0, 0, rfl, [], ⟨fun w hw => (by cases hw), by simp⟩, rfl, ⟨none, 0, rfl, .inl ⟨rfl, rfl⟩⟩, fun w hw => by cases hw⟩
theorem CntM.zero (H : View) (n : Nat) : CntM H n [] fun _ => 0 := ⟨List.nodup_nil, fun q h => (by cases h), fun _ => natAt_zero H, fun _ _ => rfl⟩
theorem CntM.mono {H H' : View} {n : Nat} {kvs : KVs} {f : Int → Nat} (h : CntM H n kvs f) (hle : VLe H H') : CntM H' n kvs f := ⟨h.1, h.2.1, fun q => (h.2.2.1 q).mono hle, h.2.2.2⟩
theorem CntM.congr {H : View} {n : Nat} {kvs : KVs} {f g : Int → Nat} (h : CntM H n kvs f) (e : ∀ q, f q = g q) : CntM H n kvs g := by rwa [show g = f from funext fun q => (e q).symm]
theorem CntM.add {H : View} {n : Nat} {kvs : KVs} {f g : Int → Nat} (h : CntM H n kvs f) {q : Int} {v : Value} {k : Nat} (hq : 0 ≤ q ∧ q < (n : Int)) (hv : NatAt H v (f q + k)) (hg : ∀ p, g p = f p + if q = p then k else 0) : CntM H n (setI kvs q v) g := by
  obtain ⟨h1, h2, h3, h4⟩ := h
  refine ⟨setI_keys _ _ h1, fun p hp => ?_, fun p => ?_, fun p hp => ?_⟩
  · obtain ⟨e, he, rfl⟩ := List.mem_map.1 hp
    rcases (setI_mem h1).1 he with rfl | ⟨_, he⟩
    · exact hq
    · exact h2 _ (List.mem_map.2 ⟨e, he, rfl⟩)
  · rw [lookI_setI h1, hg]
    by_cases e : p = q
    · subst e; rw [if_pos rfl, if_pos rfl]; exact hv
    · rw [if_neg e, if_neg fun h => e h.symm]; exact h3 p
  · rw [lookI_setI h1] at hp
    by_cases e : p = q
    · rw [if_pos e] at hp; cases hp
    · rw [if_neg e] at hp
      rw [hg, h4 p hp, if_neg fun h => e h.symm]
theorem CntM.key {H : View} {n : Nat} {kvs : KVs} {f : Int → Nat} (h : CntM H n kvs f) {i : Nat} {q : Int} {u : Value} (hk : kvs[i]? = some (q, u)) : (0 ≤ q ∧ q < (n : Int)) ∧ NatAt H u (f q) := by
  have hl := lookI_mem h.1 (List.mem_of_getElem? hk)
  have h3 := h.2.2.1 q
  rw [hl] at h3
  exact ⟨h.2.1 q (List.mem_map.2 ⟨_, List.mem_of_getElem? hk, rfl⟩), h3⟩
/-- Over all keys, in any order. -/
theorem CntM.sum {H : View} {n : Nat} {kvs : KVs} {f : Int → Nat} (h : CntM H n kvs f) {ks : List Int} (hp : ks.Perm (kvs.map (·.1))) (g : Int → Nat) (hg : ∀ q, f q = 0 → g q = 0) : (ks.map g).sum = sumN n fun x => g (x : Int) := by
  obtain ⟨h1, h2, _, h4⟩ := h
  have e1 : (ks.map g).sum = ((kvs.map (·.1)).map g).sum := (hp.map g).sum_nat
  rw [e1]
  have key : ∀ (n : Nat) (l : List Int), l.Nodup → (∀ q ∈ l, 0 ≤ q ∧ q < (n : Int)) → (∀ q : Int, 0 ≤ q ∧ q < (n : Int) → q ∉ l → g q = 0) → (l.map g).sum = sumN n fun x => g (x : Int) := by
    intro n
    induction n with
    | zero =>
      intro l _ hl _
      cases l with
      | nil => rfl
      | cons x l => have := hl x List.mem_cons_self; omega
    | succ n ih =>
      intro l hn hl hz
      rw [sumN_succ]
      by_cases hm : (n : Int) ∈ l
      · have hperm := List.perm_cons_erase hm
        rw [((hperm.map g).sum_nat : (l.map g).sum = _), List.map_cons, List.sum_cons]
        have hne := hn.erase (n : Int)
        have hnm : (n : Int) ∉ l.erase (n : Int) := fun hc => (List.nodup_cons.1 (hperm.nodup_iff.1 hn)).1 hc
        have hmem : ∀ q, q ∈ l.erase (n : Int) ↔ q ∈ l ∧ q ≠ n := fun q => by
          constructor
          · intro hq; exact ⟨List.mem_of_mem_erase hq, fun e => hnm (e ▸ hq)⟩
          · rintro ⟨hq, he⟩; exact (List.mem_erase_of_ne he).2 hq
        have := ih (l.erase (n : Int)) hne (fun q hq => by obtain ⟨a1, a2⟩ := (hmem q).1 hq; have := hl q a1; omega) (fun q hb hq => hz q (by omega) fun hc => hq ((hmem q).2 ⟨hc, by omega⟩))
        rw [this]; omega
      · rw [ih l hn (fun q hq => by have := hl q hq; have : q ≠ n := fun e => hm (e ▸ hq); omega) (fun q hb => hz q (by omega)), hz _ (by omega) hm]
        rfl
  refine key n _ h1 h2 fun q _ hq => hg q (h4 q ?_)
  cases hl : lookI kvs q with
  | none => rfl
  | some v => exact absurd (lookI_isSome.1 (by rw [hl]; rfl)) hq
end Pal

/-
  Counting: partial sums asx the walk meets them. Own work. No statement of the seat is proved here.
-/
namespace Pal
open Go Go.Proofs Go.Proofs.X
theorem msGet {ms : List Value} {i off : Nat} {v : Value} (h : ms[i]? = some v) (ho : off = i) : ms.toArray[off]? = some v := by subst ho; simpa using h
theorem NatAt.one {H : View} {v : Value} {n : Nat} (h : NatAt H v n) : ∃ xa k cp, v = .agg #[.slice xa k cp] ∧ RepN H (.slice xa k cp) n := h
def add1 (d : Dt) (sym n : Nat) (p0 : Int → Nat) (ks : List Int) (q : Int) : Nat := p0 q + (ks.map fun x => term1 d (cD d) sym n q x).sum
def add2 (d : Dt) (sym n : Nat) (p0 : Int → Nat) (j : Nat) (q : Int) : Nat := p0 q + sumN j fun j => sumN d.acc.length fun x => sumN d.acc.length fun y => term2 d (cD d) sym n (j + 1) q (x : Int) (y : Int)
def add3 (d : Dt) (sym n : Nat) (p0 : Int → Nat) (j : Nat) (ks : List Int) (q : Int) : Nat := add2 d sym n p0 j q + (ks.map fun x => sumN d.acc.length fun y => term2 d (cD d) sym n (j + 1) q x (y : Int)).sum
def add4 (d : Dt) (sym n : Nat) (p0 : Int → Nat) (j : Nat) (ks : List Int) (x : Int) (ls : List Int) (q : Int) : Nat := add3 d sym n p0 j ks q + (ls.map fun y => term2 d (cD d) sym n (j + 1) q x y).sum
theorem add1_snoc (d : Dt) (sym n : Nat) (p0 : Int → Nat) (ks : List Int) (x q : Int) : add1 d sym n p0 (ks ++ [x]) q = add1 d sym n p0 ks q + if atM d (sym : Int) [x] = q then cD d (n - 1) x else 0 := by
  unfold add1; rw [List.map_append, List.sum_append]; simp [term1]; omega
theorem add4_snoc (d : Dt) (sym n : Nat) (p0 : Int → Nat) (j : Nat) (ks : List Int) (x : Int) (ls : List Int) (y q : Int) : add4 d sym n p0 j ks x (ls ++ [y]) q = add4 d sym n p0 j ks x ls q + if atM d (sym : Int) [x, y] = q then cD d (j + 1) x * cD d (n - 1 - (j + 1)) y else 0 := by
  unfold add4; rw [List.map_append, List.sum_append]; simp [term2]; omega
theorem add1_all {H : View} {d : Dt} {sym n : Nat} {p0 : Int → Nat} {kvs : KVs} {ks : List Int} (h : CntM H d.acc.length kvs (cD d (n - 1))) (hp : ks.Perm (kvs.map (·.1))) (h0 : n ≠ 0) (hr : d.ranks.getD sym 0 = 1) (q : Int) : add1 d sym n p0 ks q = p0 q + termD d (cD d) sym n q := by
  unfold add1 termD
  rw [if_neg h0, if_neg (by omega), if_pos hr, h.sum hp (fun x => term1 d (cD d) sym n q x) (fun x hx => by unfold term1; rw [hx]; split <;> rfl)]
theorem add3_snoc {H : View} {d : Dt} {sym n : Nat} {p0 : Int → Nat} {j : Nat} {ks ls : List Int} {x : Int} {kvs : KVs} (h : CntM H d.acc.length kvs (cD d (n - 1 - (j + 1)))) (hp : ls.Perm (kvs.map (·.1))) (q : Int) : add4 d sym n p0 j ks x ls q = add3 d sym n p0 j (ks ++ [x]) q := by
  unfold add4 add3
  rw [h.sum hp (fun y => term2 d (cD d) sym n (j + 1) q x y) (fun y hy => by unfold term2; rw [hy, Nat.mul_zero]; split <;> rfl), List.map_append, List.sum_append]
  simp only [List.map_cons, List.map_nil, List.sum_cons, List.sum_nil]; omega
theorem add2_succ {H : View} {d : Dt} {sym n : Nat} {p0 : Int → Nat} {j : Nat} {ks : List Int} {kvs : KVs} (h : CntM H d.acc.length kvs (cD d (j + 1))) (hp : ks.Perm (kvs.map (·.1))) (q : Int) : add3 d sym n p0 j ks q = add2 d sym n p0 (j + 1) q := by
  unfold add3 add2
  rw [h.sum hp (fun x => sumN d.acc.length fun y => term2 d (cD d) sym n (j + 1) q x (y : Int)) (fun x hx => by
    have : ∀ y, y < d.acc.length → term2 d (cD d) sym n (j + 1) q x (y : Int) = 0 := fun y _ => by unfold term2; rw [hx, Nat.zero_mul]; split <;> rfl
    rw [sumN_congr this, sumN_const, Nat.mul_zero]), sumN_succ]
  omega
theorem add2_all {d : Dt} {sym n : Nat} {p0 : Int → Nat} (h0 : n ≠ 0) (hr : d.ranks.getD sym 0 ≠ 0) (hr1 : d.ranks.getD sym 0 ≠ 1) (q : Int) : add2 d sym n p0 (n - 2) q = p0 q + termD d (cD d) sym n q := by
  unfold add2 termD
  rw [if_neg h0, if_neg hr, if_neg hr1]
/-! ### All stays below the bound -/
theorem listsum_bound {B : Nat} {g : Int → Nat} : ∀ {l : List Int}, (∀ x, g x ≤ B) → (l.map g).sum ≤ l.length * B
  | [], _ => Nat.zero_le _
  | x :: l, h => by
    have h1 := listsum_bound (l := l) h
    have h2 := h x
    rw [List.map_cons, List.sum_cons, List.length_cons, Nat.succ_mul]; omega
theorem term1_le {d : Dt} (h8 : d.ranks.length ≤ 8) (hn : d.acc.length ≤ 8) {n : Nat} (h64 : n ≤ 64) (sym : Nat) (q x : Int) : term1 d (cD d) sym n q x ≤ 32768 ^ n := by
  unfold term1
  split
  · exact Nat.le_trans (cD_bound h8 hn _ (by omega) x) (Nat.pow_le_pow_right (by decide) (by omega))
  · exact Nat.zero_le _
theorem prod_le {d : Dt} (h8 : d.ranks.length ≤ 8) (hn : d.acc.length ≤ 8) {n i : Nat} (h64 : n ≤ 64) (hi : i < n) (x y : Int) : cD d i x * cD d (n - 1 - i) y ≤ 32768 ^ n := by
  refine Nat.le_trans (Nat.mul_le_mul (cD_bound h8 hn i (by omega) x) (cD_bound h8 hn (n - 1 - i) (by omega) y)) ?_
  rw [← Nat.pow_add]
  exact Nat.pow_le_pow_right (by decide) (by omega)
theorem term2_le {d : Dt} (h8 : d.ranks.length ≤ 8) (hn : d.acc.length ≤ 8) {n i : Nat} (h64 : n ≤ 64) (hi : i < n) (sym : Nat) (q x y : Int) : term2 d (cD d) sym n i q x y ≤ 32768 ^ n := by
  unfold term2
  split
  · exact prod_le h8 hn h64 hi x y
  · exact Nat.zero_le _
theorem pow_big2 {n K : Nat} (h : n ≤ 64) (hK : K ≤ 65536) : K * 32768 ^ n < bigN := by
  have h1 : 32768 ^ n ≤ 32768 ^ 64 := Nat.pow_le_pow_right (by decide) h
  have h3 : 65536 * 32768 ^ 64 < 4294967296 ^ 31 := by decide
  exact Nat.lt_of_lt_of_le (Nat.lt_of_le_of_lt (Nat.mul_le_mul hK h1) h3) words31
theorem add1_big {d : Dt} (h8 : d.ranks.length ≤ 8) (hn : d.acc.length ≤ 8) {n : Nat} (h64 : n ≤ 64) {p0 : Int → Nat} {q : Int} (hp : p0 q ≤ 32768 ^ n) (sym : Nat) {ks : List Int} (hk : ks.length ≤ 8) : add1 d sym n p0 ks q < bigN := by
  unfold add1
  have h1 := listsum_bound (l := ks) (g := fun x => term1 d (cD d) sym n q x) fun x => term1_le h8 hn h64 sym q x
  have h2 : ks.length * 32768 ^ n ≤ 8 * 32768 ^ n := Nat.mul_le_mul_right _ hk
  have h3 := pow_big2 (K := 9) h64 (by decide)
  omega
theorem add4_big {d : Dt} (h8 : d.ranks.length ≤ 8) (hn : d.acc.length ≤ 8) {n : Nat} (h64 : n ≤ 64) {p0 : Int → Nat} {q : Int} (hp : p0 q ≤ 32768 ^ n) (sym : Nat) {j : Nat} (hj : j + 1 < n) {ks ls : List Int} (hk : ks.length ≤ 8) (hl : ls.length ≤ 8) (x : Int) : add4 d sym n p0 j ks x ls q < bigN := by
  unfold add4 add3 add2
  have ht : ∀ i x y, i < n → term2 d (cD d) sym n i q x y ≤ 32768 ^ n := fun i x y hi => term2_le h8 hn h64 hi sym q x y
  have hy : ∀ i x, i < n → (sumN d.acc.length fun y => term2 d (cD d) sym n i q x (y : Int)) ≤ 8 * 32768 ^ n := fun i x hi => Nat.le_trans (sumN_bound fun y _ => ht i x _ hi) (Nat.mul_le_mul_right _ hn)
  have hx : ∀ i, i < n → (sumN d.acc.length fun x => sumN d.acc.length fun y => term2 d (cD d) sym n i q (x : Int) (y : Int)) ≤ 64 * 32768 ^ n := fun i hi => by
    have h1 := sumN_bound (n := d.acc.length) fun x _ => hy i (x : Int) hi
    have h2 : d.acc.length * (8 * 32768 ^ n) ≤ 8 * (8 * 32768 ^ n) := Nat.mul_le_mul_right _ hn
    omega
  have a1 := sumN_bound (n := j) fun i hi => hx (i + 1) (by omega)
  have a2 : j * (64 * 32768 ^ n) ≤ 64 * (64 * 32768 ^ n) := Nat.mul_le_mul_right _ (by omega)
  have a3 := listsum_bound (l := ks) fun x => hy (j + 1) x (by omega)
  have a4 : ks.length * (8 * 32768 ^ n) ≤ 8 * (8 * 32768 ^ n) := Nat.mul_le_mul_right _ hk
  have a5 := listsum_bound (l := ls) fun y => ht (j + 1) x y (by omega)
  have a6 : ls.length * 32768 ^ n ≤ 8 * 32768 ^ n := Nat.mul_le_mul_right _ hl
  have a7 := pow_big2 (n := n) (K := 5000) h64 (by decide)
  omega
theorem keysAt_le {kvs : KVs} {N : Nat} {seen : List Nat} (hk : (kvs.map (·.1)).Nodup) (hr : ∀ q ∈ kvs.map (·.1), 0 ≤ q ∧ q < (N : Int)) (hn : seen.Nodup) (hlt : ∀ i ∈ seen, i < kvs.length) : (keysAt kvs seen).length ≤ N := by
  refine nodup_range (keysAt_nodup hk hn hlt) fun q hq => hr q ?_
  unfold keysAt at hq
  obtain ⟨i, hi, rfl⟩ := List.mem_map.1 hq
  have := hlt i hi
  exact List.mem_map.2 ⟨kvs[i], List.getElem_mem this, by simp [List.getD, this]⟩
/-- A transition of one or two operands, asx it lies in the table. -/
theorem at_one {d : Dt} (hok : DtOk d) {sym : Nat} {x : Int} (hs : sym < d.ranks.length) (hr : d.ranks.getD sym 0 = 1) (hx : 0 ≤ x ∧ x < (d.acc.length : Int)) : ∃ (h1 : sym < d.to.length) (h2 : x.toNat < d.to[sym].length), atM d (sym : Int) [x] = d.to[sym][x.toNat] ∧ 0 ≤ atM d (sym : Int) [x] ∧ atM d (sym : Int) [x] < (d.acc.length : Int) := by
  obtain ⟨g1, g2, g3, g4⟩ := hok.at_ok (s := (sym : Int)) (l := [x]) ⟨by omega, by omega⟩ (by rw [Int.toNat_natCast, hr]; rfl) (fun y hy => by rw [List.mem_singleton.1 hy]; exact hx)
  have hp : placeM d.acc.length [x] = x := by simp [placeM]
  rw [hp] at g2
  have e : d.to.getD sym [] = d.to[sym]'(by simpa using g1) := by simp [List.getD, show sym < d.to.length by simpa using g1]
  rw [Int.toNat_natCast, e] at g2
  refine ⟨by simpa using g1, g2.2, ?_, g3, g4⟩
  unfold atM
  rw [hp, Int.toNat_natCast, e]
  simp [List.getD, g2.2]
theorem at_two {d : Dt} (hok : DtOk d) {sym : Nat} {x y : Int} (hs : sym < d.ranks.length) (hr : d.ranks.getD sym 0 = 2) (hx : 0 ≤ x ∧ x < (d.acc.length : Int)) (hy : 0 ≤ y ∧ y < (d.acc.length : Int)) : ∃ (h1 : sym < d.to.length) (h2 : (x * d.acc.length + y).toNat < d.to[sym].length), atM d (sym : Int) [x, y] = d.to[sym][(x * d.acc.length + y).toNat] ∧ (0 ≤ atM d (sym : Int) [x, y] ∧ atM d (sym : Int) [x, y] < (d.acc.length : Int)) ∧ 0 ≤ x * d.acc.length + y := by
  obtain ⟨g1, g2, g3, g4⟩ := hok.at_ok (s := (sym : Int)) (l := [x, y]) ⟨by omega, by omega⟩ (by rw [Int.toNat_natCast, hr]; rfl) (fun z hz => by
    rcases List.mem_cons.1 hz with rfl | hz
    · exact hx
    · rw [List.mem_singleton.1 hz]; exact hy)
  have hp : placeM d.acc.length [x, y] = x * d.acc.length + y := by simp [placeM]
  rw [hp] at g2
  have e : d.to.getD sym [] = d.to[sym]'(by simpa using g1) := by simp [List.getD, show sym < d.to.length by simpa using g1]
  rw [Int.toNat_natCast, e] at g2
  refine ⟨by simpa using g1, g2.2, ?_, ⟨g3, g4⟩, g2.1⟩
  unfold atM
  rw [hp, Int.toNat_natCast, e]
  simp [List.getD, g2.2]
end Pal
namespace Pal
theorem one_big : 1 < bigN := by
  have := pow_big2 (n := 0) (K := 2) (by decide) (by decide)
  omega
end Pal

/-
  All trees of a size, in the reference's order; how many of them have a given state. Own work. No statement of the seat is proved here.
-/
namespace Pal
open Go Go.Proofs Go.Proofs.X
theorem dt_ranks {d : Dt} (hok : DtOk d) : ∀ s, s < d.ranks.length → 0 ≤ d.ranks.getD s 0 ∧ d.ranks.getD s 0 ≤ 2 := fun s hs => by
  have := (ranksErr_ok hok.rk).2 s hs
  rw [show d.ranks.getD s 0 = d.ranks[s] by simp [List.getD, hs]]; exact this
/-- The number of trees whose state is marked. -/
def sumA (d : Dt) (n : Nat) : Nat := sumN d.acc.length fun x => if d.acc.getD x false = true then cD d n (x : Int) else 0
end Pal

/-
  All trees of a size: the lists asx the walk meets them, and their lengths. Own work. No statement of the seat is proved here.
-/
namespace Pal
open Go Go.Proofs Go.Proofs.X
def TreesAt (H : View) (v : Value) (ts : List Tr) : Prop := ∃ a cp cells, v = .slice a ts.length cp ∧ SlAt H (.slice a ts.length cp) ts.length cells ∧ RepL (RepT H) 2 ts cells
theorem TreesAt.nil (H : View) : TreesAt H (.slice none 0 0) [] := ⟨none, 0, [], rfl, ⟨none, 0, rfl, .inl ⟨rfl, rfl⟩⟩, .nil⟩
theorem RepT.one {H : View} {s b : Nat} {u : Tr} {x0 : Int} {x1 : Option Addr} {x2 x3 : Nat} {T : TypeId} {fz : Nat × Nat} (hs : i64ok (s : Int)) (hb : H b = some (.cells #[.int .i64 x0, .slice x1 x2 x3] T fz)) (hu : RepT H u [.int .i64 x0, .slice x1 x2 x3]) : RepT H (.node (s : Int) [u]) [.int .i64 (s : Int), .slice (some ⟨b, 0, none⟩) 1 1] :=
  .of hs ⟨_, _, rfl, .inr ⟨b, 0, rfl, At.of hb⟩⟩ (RepL.one hu rfl)
theorem RepT.pair {H : View} {s b : Nat} {u v : Tr} {x0 y0 : Int} {x1 y1 : Option Addr} {x2 x3 y2 y3 : Nat} {T : TypeId} {fz : Nat × Nat} (hs : i64ok (s : Int)) (hb : H b = some (.cells #[.int .i64 x0, .slice x1 x2 x3, .int .i64 y0, .slice y1 y2 y3] T fz)) (hu : RepT H u [.int .i64 x0, .slice x1 x2 x3]) (hv : RepT H v [.int .i64 y0, .slice y1 y2 y3]) : RepT H (.node (s : Int) [u, v]) [.int .i64 (s : Int), .slice (some ⟨b, 0, none⟩) 2 2] :=
  .of hs ⟨_, _, rfl, .inr ⟨b, 0, rfl, At.of hb⟩⟩ ((RepL.one hu rfl).snoc hv rfl)
end Pal

/-
  Counting trees of a size: the error, bounds, the array of maps. Own work. No statement of the seat is proved here.
-/
namespace Pal
open Go Go.Proofs Go.Proofs.X
theorem repN_zero (H : View) : RepN H (.slice none 0 0) 0 := ⟨[], ⟨fun w hw => (by cases hw), by simp⟩, rfl, ⟨none, 0, rfl, .inl ⟨rfl, rfl⟩⟩, fun w hw => by cases hw⟩
def countErr (d : Dt) (size : Int) : Int := if dtErr d ≠ 0 then dtErr d else if size < 0 ∨ 64 < size then 2 else 0
theorem ms_put {ms : List Value} {i off b : Nat} (h : i < ms.length) (ho : off = i) : putCells ms.toArray off (mp b).cells.toList = (ms.set i (mp b)).toArray := by
  subst ho
  have e : putCells ms.toArray off (mp b).cells.toList = ms.toArray.setIfInBounds off (mp b) := putCells_one (by simpa using h)
  rw [e]; simp
theorem partD_bound {d : Dt} (h8 : d.ranks.length ≤ 8) (hn : d.acc.length ≤ 8) {n k : Nat} (h : n ≤ 64) (hk : k ≤ d.ranks.length) (q : Int) : partD d n k q ≤ 32768 ^ n := by
  refine Nat.le_trans (sumN_mono _ hk) ?_
  have := cD_bound h8 hn n h q
  rwa [← partD_all] at this
theorem sumk_big {d : Dt} (h8 : d.ranks.length ≤ 8) (hn : d.acc.length ≤ 8) {n : Nat} (h64 : n ≤ 64) {ks : List Int} (hk : ks.length ≤ 8) : (ks.map fun q => if d.acc.getD q.toNat false = true then cD d n q else 0).sum < bigN := by
  have h1 := listsum_bound (l := ks) (g := fun q => if d.acc.getD q.toNat false = true then cD d n q else 0) (B := 32768 ^ n) fun q => by
    split
    · exact cD_bound h8 hn n h64 q
    · exact Nat.zero_le _
  have h2 : ks.length * 32768 ^ n ≤ 8 * 32768 ^ n := Nat.mul_le_mul_right _ hk
  have h3 := pow_big2 (K := 9) h64 (by decide)
  omega
theorem sumA_keys {H : View} {d : Dt} {n : Nat} {kvs : KVs} {ks : List Int} (h : CntM H d.acc.length kvs (cD d n)) (hp : ks.Perm (kvs.map (·.1))) : (ks.map fun q => if d.acc.getD q.toNat false = true then cD d n q else 0).sum = sumA d n := by
  rw [h.sum hp _ fun q hq => by rw [hq]; split <;> rfl]
  rfl
def evenD : Dt := ⟨[0, 2], [false, true], [[0], [1, 0, 0, 1]]⟩
theorem even_three : sumA evenD 3 = 1 := by decide +kernel
theorem even_ok : countErr evenD 3 = 0 := by decide +kernel
end Pal

/-
  The complement of a deterministic automaton; counts of accepted trees. Own work. No statement of the seat is proved here.
-/
namespace Pal
open Go Go.Proofs Go.Proofs.X
section
variable {P : Program} {n : Nat} {c : Cx} {Q : Exit → Act → World → Prop} {l : KL} {hl : HL} {H : View} {ops : Array Oper} {rest : List Oper} {ty : TypeId}
theorem E_callW {g : Operand} {xs : List Operand} {ats : Array TypeId} {f : FuncId} {first captured vs : List Value} {post : Value → View → Prop}
    (hcal : callable P f = true) (hg : ev l g = some (.func (.func f) first.toArray captured.toArray)) (hxs : evs l xs = some vs) (hS : Sat P f (first ++ vs ++ captured).toArray H post) :
    Eff P l H [] (.call ⟨.value g, xs.toArray, ats⟩) ty fun v H' q => q = [] ∧ post v H' := by
  intro e w hk ho
  refine Upon.mono (E_call (first := first) (captured := captured) (post := fun v H' _ => post v H') hcal hg hxs (by simpa [Sat] using hS) e w hk ho) ?_
  rintro v w' ⟨H', q, ho', hp⟩
  exact ⟨H', [], ho'.sublist (List.nil_sublist q), rfl, hp⟩
theorem K_callW {d : Nat} {pos : String} {aft : Array Edge} {g : Operand} {xs : List Operand} {ats : Array TypeId} {f : FuncId} {first captured vs : List Value} {post : Value → View → Prop}
    (hcal : callable P f = true) (hg : ev l g = some (.func (.func f) first.toArray captured.toArray)) (hxs : evs l xs = some vs) (hdn : Nat.blt d n = true) (hS : Sat P f (first ++ vs ++ captured).toArray H post)
    (h : ∀ u H', VLe H H' → post u H' → KO P n c ops Q rest ((d, u) :: l) hl H') :
    KO P n c ops Q (⟨some d, .call ⟨.value g, xs.toArray, ats⟩, ty, pos, aft, none⟩ :: rest) l hl H :=
  KE [] hl (List.Perm.refl _) (E_callW hcal hg hxs hS) hdn (by rintro v H' q hle ⟨rfl, hp⟩; exact h v H' hle hp)
end
def cmplD (d : Dt) : Dt := ⟨d.ranks, d.acc.map fun b => !b, d.to⟩
theorem cmpl_err (d : Dt) : dtErr (cmplD d) = dtErr d := by
  unfold dtErr widthBad entryBad cmplD
  simp only [List.length_map]
theorem at_acc {d e : Dt} (h2 : e.acc.length = d.acc.length) (h3 : e.to = d.to) : atM e = atM d := by
  funext s l; unfold atM; rw [h2, h3]
theorem made_same {d : Dt} (hok : DtOk d) : (List.range d.ranks.length).map (fun z => (tups d.acc.length (d.ranks.getD z 0).toNat).map (atM d (z : Int))) = d.to := by
  refine List.ext_getElem (by simp [hok.tl]) fun z h1 h2 => ?_
  rw [List.getElem_map, List.getElem_range]
  have hz : z < d.ranks.length := by simpa using h1
  have hg : d.to.getD z [] = d.to[z] := by simp [List.getD, h2]
  have hw := hok.w z hz
  rw [hg] at hw
  refine List.ext_getElem (by rw [List.length_map, tups_len, hw]) fun i g1 g2 => ?_
  have g3 : i < (tups d.acc.length (d.ranks.getD z 0).toNat).length := by simpa using g1
  have e : atM d (z : Int) ((tups d.acc.length (d.ranks.getD z 0).toNat)[i]'g3) = d.to[z][i] := by
    unfold atM
    rw [Int.toNat_natCast, hg, tups_at g3, Int.toNat_natCast]
    simp [List.getD, g2]
  rw [List.getElem_map]
  exact e
theorem not_acc (d : Dt) : (List.range d.acc.length).map (fun q => !d.acc.getD q false) = d.acc.map fun b => !b := by
  refine List.ext_getElem (by simp) fun i h1 h2 => ?_
  have : i < d.acc.length := by simpa using h1
  simp [List.getD, this]
end Pal
namespace Pal
open Go Go.Proofs Go.Proofs.X
theorem at_len {d : Dt} (hok : DtOk d) {s : Nat} {xs : List Int} (hs : s < d.ranks.length) (h : xs ∈ tups d.acc.length (d.ranks.getD s 0).toNat) : (xs.length : Int) = d.ranks.getD ((s : Nat) : Int).toNat 0 := by
  rw [Int.toNat_natCast, (tups_item h).1]
  have := dt_ranks hok s hs
  omega
theorem at_i64 {d : Dt} (hok : DtOk d) {s : Nat} {xs : List Int} (hs : s < d.ranks.length) (h : xs ∈ tups d.acc.length (d.ranks.getD s 0).toNat) : i64ok (atM d (s : Int) xs) := by
  have h1 := (hok.at_ok (s := (s : Int)) (l := xs) ⟨by omega, by omega⟩ (at_len hok hs h) (tups_item h).2).2.2
  have := hok.n
  simp only [i64ok]; omega
theorem three_get {n : Nat} {r : Int} {off : Nat} (h : 0 ≤ r ∧ r ≤ 2) (ho : off = r.toNat) : (#[Value.int .i64 1, .int .i64 (n : Int), .int .i64 ((n : Int) * n)])[off]? = some (.int .i64 (([1, (n : Int), (n : Int) * n]).getD r.toNat 0)) := by
  subst ho
  obtain rfl | rfl | rfl : r = 0 ∨ r = 1 ∨ r = 2 := by omega
  all_goals rfl
end Pal
namespace Pal
open Go Go.Proofs Go.Proofs.X
theorem cmpl_len (d : Dt) : (cmplD d).acc.length = d.acc.length := by simp [cmplD]
end Pal

/-
  Maps whose keys are coded by numbers (structs asx keys), told by their entries in the order in which they were laid: one block. Lookups, stores, ranges. Own work. No statement of the seat is proved here.
-/
namespace Pal
open Go
def entK (ke : Int → Value) (p : (Int × Value) × Nat) : MapEntry := ⟨ke p.1.1, p.1.2, p.2⟩
def mkEsK (ke : Int → Value) (kvs : KVs) : Array MapEntry := (kvs.zipIdx.map (entK ke)).toArray
def mapObK (ke : Int → Value) (kvs : KVs) : Obj := .map (mkEsK ke kvs) kvs.length
theorem mkEsK_get (ke : Int → Value) (kvs : KVs) (i : Nat) : (mkEsK ke kvs)[i]? = (kvs[i]?).map fun p => entK ke (p, i) := by
  simp [mkEsK, List.getElem?_zipIdx]
  cases kvs[i]? <;> simp
theorem mkEsK_snoc (ke : Int → Value) (kvs : KVs) (p : Int × Value) : mkEsK ke (kvs ++ [p]) = (mkEsK ke kvs).push (entK ke (p, kvs.length)) := by
  simp [mkEsK, List.zipIdx_append]
structure GoodK (G : Int → Prop) (kvs : KVs) : Prop where
  g : ∀ p ∈ kvs, G p.1
  nd : (kvs.map (·.1)).Nodup
structure KeyL (P : Program) (kt : TypeId) (ke : Int → Value) (G : Int → Prop) : Prop where
  check : ∀ q, G q → ∀ em w, (Instr.checkKey em 10000 kt (ke q)).run P w = .ok () w
  find : ∀ q, G q → ∀ kvs : KVs, GoodK G kvs → ∀ w, (Instr.findKey kt (ke q) (mkEsK ke kvs).toList).run P w = .ok (findI q kvs 0) w
  stays : ∀ q, G q → ∀ w, (Instr.keyThatStays (ke q) (ke q)).run P w = .ok (ke q) w
theorem KeyL.of {P : Program} {kt : TypeId} {ke : Int → Value} {G : Int → Prop} (K : WideMaps.KeyLaw P kt) (hk : ∀ q, G q → ∃ l, keyOf P kt (ke q) = some l) (inj : ∀ p q, G p → G q → ke p = ke q → p = q) : KeyL P kt ke G := by
  refine ⟨fun q hq em w => ?_, fun q hq kvs hg w => ?_, fun q hq w => ?_⟩
  · obtain ⟨l, hl⟩ := hk q hq
    exact K.check w em hl
  · obtain ⟨l, hl⟩ := hk q hq
    have hes : ∀ e ∈ (mkEsK ke kvs).toList, ∃ i p, kvs[i]? = some p ∧ e = entK ke (p, i) := by
      intro e he
      obtain ⟨i, hi⟩ := List.mem_iff_getElem?.1 he
      rw [Array.getElem?_toList, mkEsK_get] at hi
      cases hp : kvs[i]? with
      | none => rw [hp] at hi; cases hi
      | some p => rw [hp] at hi; cases hi; exact ⟨i, p, hp, rfl⟩
    rcases K.find w hl (mkEsK ke kvs).toList (fun e he => by
      obtain ⟨i, p, hp, rfl⟩ := hes e he
      exact hk _ (hg.g p (List.mem_of_getElem? hp))) with ⟨h1, h2⟩ | ⟨j, e, h1, h2, h3⟩
    · rw [h1]
      cases hf : findI q kvs 0 with
      | none => rfl
      | some r =>
        obtain ⟨i, u⟩ := r
        obtain ⟨_, h4, _⟩ := findI_some hf
        rw [Nat.sub_zero] at h4
        refine absurd rfl (h2 (entK ke ((q, u), i)) ?_)
        have := mkEsK_get ke kvs i
        rw [h4] at this
        exact Array.mem_toList_iff.2 (Array.mem_of_getElem? this)
    · rw [h1]
      rw [Array.getElem?_toList, mkEsK_get] at h2
      cases hp : kvs[j]? with
      | none => rw [hp] at h2; cases h2
      | some p =>
        rw [hp] at h2
        cases h2
        have hpq : p.1 = q := inj _ _ (hg.g p (List.mem_of_getElem? hp)) hq h3
        cases hf : findI q kvs 0 with
        | none => exact absurd hpq (findI_none hf p (List.mem_of_getElem? hp))
        | some r =>
          obtain ⟨i, u⟩ := r
          obtain ⟨_, h4, h5⟩ := findI_some hf
          rw [Nat.sub_zero] at h4 h5
          have hij : i = j := by
            have hi := (List.getElem?_eq_some_iff.1 h4).1
            have hj := (List.getElem?_eq_some_iff.1 hp).1
            rcases Nat.lt_trichotomy i j with h | h | h
            · have := List.pairwise_iff_getElem.1 hg.nd i j (by simpa using hi) (by simpa using hj) h
              refine absurd ?_ this
              have e1 := (List.getElem?_eq_some_iff.1 h4).2
              have e2 := (List.getElem?_eq_some_iff.1 hp).2
              simp only [List.getElem_map]
              rw [e1, e2]; exact hpq.symm
            · exact h
            · exact absurd hpq (h5 j h p hp)
          subst hij
          rw [h4] at hp
          cases hp
          rfl
  · obtain ⟨l, hl⟩ := hk q hq
    exact K.stays w hl
theorem GoodK.set {G : Int → Prop} {kvs : KVs} (h : GoodK G kvs) {q : Int} (hq : G q) (v : Value) : GoodK G (setI kvs q v) := by
  refine ⟨fun p hp => ?_, setI_keys q v h.nd⟩
  rcases (setI_mem h.nd).1 hp with rfl | ⟨_, hp⟩
  · exact hq
  · exact h.g p hp
theorem GoodK.nil (G : Int → Prop) : GoodK G [] := ⟨fun p hp => (by cases hp), List.nodup_nil⟩
section
variable {ke : Int → Value} {G : Int → Prop} {P : Program} {n : Nat} {c : Cx} {Q : Exit → Act → World → Prop} {l : KL} {hl : HL} {H : View} {keep : HL} {fin : Bool}
variable {ol : List Oper} {ops : Array Oper} {rest : List Oper} {R : List Nat} {T : ST} {d i : Nat} {ty : TypeId} {pos : String} {aft : Array Edge} {g : Option (Nat × Bool)}
/-- In the view, or owned. -/
def MapAtK (ke : Int → Value) (H : View) (hl : HL) (b : Nat) (kvs : KVs) : Prop := H b = some (mapObK ke kvs) ∨ blk b (mapObK ke kvs) ∈ hl
theorem MapAtK.heap {b : Nat} {kvs : KVs} (h : MapAtK ke H hl b kvs) {w : World} (hw : Has w H hl) : w.heap[b]? = some (mapObK ke kvs) := by
  rcases h with h | h
  · exact hw.has _ _ h
  · exact hw.own _ h
theorem R_lookIK {t kt et : TypeId} {x y : Operand} {b : Nat} {kvs : KVs} {q : Int} {ok : Bool} {z : Value} (ht : P.underlying t = some (.map kt et)) (hk : KeyL P kt ke G) (hq : G q) (hg : GoodK G kvs) (hz : zeroOk P et z)
    (hx : ev l x = some (mp b)) (hy : ev l y = some (ke q)) (hm : MapAtK ke H hl b kvs) :
    ValOk P l H hl (.lookup t x y ok) ty (if ok then .tuple #[(lookI kvs q).getD z, .bool (lookI kvs q).isSome] else (lookI kvs q).getD z) := by
  intro e w hkn hw
  have hb' := hm.heap hw
  simp only [ex, execOp, hkn x _ hx, hkn y _ hy, Sem.run_bind, Instr.lookup, run_underlying ht, Result.andThen_ok, mp, MapKept.run_getObj_map hb', Sem.run_pure, hk.check q hq, hk.find q hq kvs hg, lookI]
  cases findI q kvs 0 with
  | none => cases ok <;> simp [hz.run w]
  | some p => cases ok <;> simp
theorem R_lookTK {t kt et : TypeId} {x y : Operand} {b : Nat} {kvs : KVs} {q : Int} {z v : Value} (ht : P.underlying t = some (.map kt et)) (hk : KeyL P kt ke G) (hq : G q) (hg : GoodK G kvs) (hz : zeroOk P et z)
    (hx : ev l x = some (mp b)) (hy : ev l y = some (ke q)) (hm : MapAtK ke H hl b kvs) (hv : .tuple #[(lookI kvs q).getD z, .bool (lookI kvs q).isSome] = v) : ValOk P l H hl (.lookup t x y true) ty v :=
  hv ▸ R_lookIK (ok := true) ht hk hq hg hz hx hy hm
theorem R_lookVK {t kt et : TypeId} {x y : Operand} {b : Nat} {kvs : KVs} {q : Int} {z v : Value} (ht : P.underlying t = some (.map kt et)) (hk : KeyL P kt ke G) (hq : G q) (hg : GoodK G kvs) (hz : zeroOk P et z)
    (hx : ev l x = some (mp b)) (hy : ev l y = some (ke q)) (hm : MapAtK ke H hl b kvs) (hv : (lookI kvs q).getD z = v) : ValOk P l H hl (.lookup t x y false) ty v :=
  hv ▸ R_lookIK (ok := false) ht hk hq hg hz hx hy hm
theorem mkEsK_set {kvs : KVs} {i : Nat} {q : Int} {v : Value} (hi : i < kvs.length) : mkEsK ke (kvs.set i (q, v)) = (mkEsK ke kvs).modify i fun e => { e with key := ke q, val := v } := by
  apply Array.ext_getElem?
  intro k
  rw [mkEsK_get ke, Array.getElem?_modify, mkEsK_get ke, List.getElem?_set]
  by_cases e : i = k
  · subst e
    simp [hi, entK]
  · simp [e]
theorem E_mapSetK {t kt et : TypeId} {x y z : Operand} {b : Nat} {kvs : KVs} {q : Int} {val : Value} (ht : P.underlying t = some (.map kt et)) (hk : KeyL P kt ke G) (hq : G q) (hg : GoodK G kvs)
    (hx : ev l x = some (mp b)) (hy : ev l y = some (ke q)) (hz : ev l z = some val) :
    Eff P l H [blk b (mapObK ke kvs)] (.mapUpdate t x y z) ty fun _ H' r => ∃ en', r = [en'] ∧ (H' = H ∧ en' = blk b (mapObK ke (setI kvs q val))) := by
  intro e w hkn hw
  have hb : w.heap[b]? = some (.map (mkEsK ke kvs) kvs.length) := hw.own (blk b (mapObK ke kvs)) (by simp)
  have hrun : (ex e (.mapUpdate t x y z) ty).run P w = .ok .skip (w.putObj b (mapObK ke (setI kvs q val))) := by
    simp only [ex, execOp, hkn x _ hx, hkn y _ hy, hkn z _ hz, Sem.run_bind, Instr.mapUpdate, run_underlying ht, Result.andThen_ok, mp, MapKept.run_getObj_map hb, Sem.run_pure, hk.check q hq, hk.find q hq kvs hg]
    unfold setI
    cases hf : findI q kvs 0 with
    | none =>
      simp only [run_setMap hb, Result.andThen_ok, mapObK, mkEsK_snoc, entK, List.length_append, List.length_singleton]
    | some p =>
      obtain ⟨i, u⟩ := p
      obtain ⟨_, h2, _⟩ := findI_some hf
      simp only [Nat.sub_zero] at h2
      have hi : i < kvs.length := (List.getElem?_eq_some_iff.1 h2).1
      have hkey : (((mkEsK ke kvs)[i]?).map (·.key)).getD (ke q) = ke q := by rw [mkEsK_get ke, h2]; rfl
      simp only [hkey, hk.stays q hq, Sem.run_bind, Result.andThen_ok, run_setMap hb, mapObK, mkEsK_set hi, List.length_set]
  rw [hrun]
  exact ⟨H, _, ok_put _ hw, _, rfl, rfl, rfl⟩
theorem K_mapSetK {t kt et : TypeId} {x y z : Operand} {b : Nat} {kvs : KVs} {q : Int} {val : Value} (ht : P.underlying t = some (.map kt et)) (hk : KeyL P kt ke G) (hq : G q) (hg : GoodK G kvs) (j : Nat)
    (hx : ev l x = some (mp b)) (hy : ev l y = some (ke q)) (hz : ev l z = some val) (hj : hl[j]? = some (blk b (mapObK ke kvs)))
    (h : KO P n c ops Q rest l (hl.set j (blk b (mapObK ke (setI kvs q val)))) H) : KO P n c ops Q (⟨none, .mapUpdate t x y z, ty, pos, aft, none⟩ :: rest) l hl H :=
  KE1_ j hj (E_mapSetK ht hk hq hg hx hy hz) (by rintro v H' en' _ ⟨rfl, rfl⟩; exact h)
theorem E_rangeK {t kt et : TypeId} {x : Operand} {m : Nat} {kvs : KVs} (ht : P.underlying t = some (.map kt et)) (hx : ev l x = some (mp m)) (hm : ∀ w, Has w H hl → w.heap[m]? = some (mapObK ke kvs)) :
    Eff P l H hl (.range t x) ty fun v H' r => ∃ b, v = ptr b ∧ H' = H ∧ r = blk b (itO m kvs.length []) :: hl := by
  intro e w hkn hw
  have hb : w.heap[m]? = some (.map (mkEsK ke kvs) kvs.length) := hm w hw
  have hrun : (ex e (.range t x) ty).run P w = .ok (.value (ptr w.heap.size)) (w.alloc (itO m kvs.length [])) := by
    simp only [ex, execOp, hkn x _ hx, Sem.run_bind, Instr.range, run_underlying ht, Result.andThen_ok, mp, MapKept.run_getObj_map hb, Sem.run_pure, newObj, Sem.run]
    rfl
  rw [hrun]
  exact ⟨H, _, hw.ok.alloc _, _, rfl, rfl, rfl⟩
theorem E_nextK {xo : Operand} {b m : Nat} {kvs : KVs} {seen : List Nat} {p : HL} (hx : ev l xo = some (ptr b)) (hm : ∀ w, Has w H (blk b (itO m kvs.length seen) :: p) → w.heap[m]? = some (mapObK ke kvs)) :
    Eff P l H (blk b (itO m kvs.length seen) :: p) (.next xo false) ty fun v H' r => H' = H ∧
      ((v = .tuple #[.bool false] ∧ r = blk b (itO m kvs.length seen) :: p ∧ ∀ i, i < kvs.length → i ∈ seen) ∨
       ∃ (i : Nat) (q : Int) (u : Value), kvs[i]? = some (q, u) ∧ i ∉ seen ∧ v = .tuple #[.bool true, ke q, u] ∧ r = blk b (itO m kvs.length (seen ++ [i])) :: p) := by
  intro e w hkn hw
  have hb : w.heap[b]? = some (.mapIter (some m) kvs.length seen.toArray kvs.length) := hw.own (blk b (itO m kvs.length seen)) (by simp)
  have hmm : w.heap[m]? = some (.map (mkEsK ke kvs) kvs.length) := hm w hw
  have hborn : ∀ x ∈ (mkEsK ke kvs).toList, ∃ i q u, kvs[i]? = some (q, u) ∧ x = ⟨ke q, u, i⟩ := by
    intro x hx
    obtain ⟨i, hi⟩ := List.mem_iff_getElem?.1 hx
    have h2 := mkEsK_get ke kvs i
    rw [Array.getElem?_toList] at hi
    rw [hi] at h2
    cases hk : kvs[i]? with
    | none => rw [hk] at h2; cases h2
    | some p =>
      rw [hk] at h2
      exact ⟨i, p.1, p.2, by rw [hk], by simpa [entK] using h2⟩
  have hold : ∀ x ∈ (mkEsK ke kvs).toList, x.born < kvs.length := by
    intro x hx
    obtain ⟨i, q, u, h1, rfl⟩ := hborn x hx
    exact (List.getElem?_eq_some_iff.1 h1).1
  rcases run_next_at (P := P) w ty b m kvs.length kvs.length seen.toArray (mkEsK ke kvs) kvs.length hb hmm hold (Nat.le_refl _) with ⟨h0, hr⟩ | ⟨x, hx2, w1, hw1, hr⟩
  · have hrun : (ex e (.next xo false) ty).run P w = .ok (.value (.tuple #[.bool false])) w := by
      simp only [ex, execOp, hkn xo _ hx, ptr, Sem.run_bind, hr, Result.andThen_ok, Sem.run_pure]
    rw [hrun]
    refine ⟨H, _, hw.ok, rfl, .inl ⟨rfl, rfl, fun i hi => ?_⟩⟩
    have he : leftOf (mkEsK ke kvs) seen.toArray = #[] := Array.eq_empty_of_size_eq_zero h0
    unfold leftOf at he
    rw [Array.filter_eq_empty_iff] at he
    have hg : (mkEsK ke kvs)[i]? = some (entK ke (kvs[i], i)) := by rw [mkEsK_get ke, List.getElem?_eq_getElem hi]; rfl
    have := he _ (Array.mem_of_getElem? hg)
    simpa [entK] using this
  · have hin : x ∈ (mkEsK ke kvs).toList ∧ ¬ x.born ∈ seen := by
      unfold leftOf at hx2
      simpa using hx2
    obtain ⟨i, q, u, h1, rfl⟩ := hborn x hin.1
    have hsb : ChangeMaps.setBlock w1 b (.mapIter (some m) kvs.length (seen.toArray.push i) kvs.length) = w1.putObj b (itO m kvs.length (seen ++ [i])) := by
      simp [ChangeMaps.setBlock, World.putObj, itO]
    have hrun : (ex e (.next xo false) ty).run P w = .ok (.value (.tuple #[.bool true, ke q, u])) (w1.putObj b (itO m kvs.length (seen ++ [i]))) := by
      simp only [ex, execOp, hkn _ _ hx, ptr, Sem.run_bind, hr, Result.andThen_ok, Sem.run_pure, hsb]
    rw [hrun]
    have hw2 : Ok ⟨w, H, feet (blk b (itO m kvs.length seen) :: p)⟩ w1 H (blk b (itO m kvs.length seen) :: p) := by
      rcases hw1 with rfl | rfl
      · exact hw.ok
      · exact hw.ok.drew
    exact ⟨H, _, hw2.put _, rfl, .inr ⟨i, q, u, h1, hin.2, rfl, rfl⟩⟩
theorem MapAtK.perm {b : Nat} {kvs : KVs} {hl' : HL} (h : MapAtK ke H hl b kvs) (hp : hl.Perm hl') : MapAtK ke H hl' b kvs := h.imp id fun h => hp.mem_iff.1 h
theorem K_rangeK {t kt et : TypeId} {x : Operand} {m : Nat} {kvs : KVs} (ht : P.underlying t = some (.map kt et)) (hx : ev l x = some (mp m)) (hm : MapAtK ke H hl m kvs) (hdn : Nat.blt d n = true)
    (h : ∀ b, KO P n c ops Q rest ((d, ptr b) :: l) (blk b (itO m kvs.length []) :: hl) H) : KO P n c ops Q (⟨some d, .range t x, ty, pos, aft, none⟩ :: rest) l hl H :=
  KE hl [] (by rw [List.append_nil]) (E_rangeK ht hx fun w hw => hm.heap hw) hdn (by
    rintro v H' q _ ⟨b, rfl, rfl, rfl⟩
    rw [List.append_nil]; exact h b)
theorem K_nextK {x : Operand} {b m : Nat} {kvs : KVs} {seen : List Nat} (j : Nat) (hj : hl[j]? = some (blk b (itO m kvs.length seen))) (hx : ev l x = some (ptr b)) (hm : MapAtK ke H hl m kvs) (hdn : Nat.blt d n = true)
    (h0 : (∀ i, i < kvs.length → i ∈ seen) → KO P n c ops Q rest ((d, .tuple #[.bool false]) :: l) hl H)
    (h1 : ∀ i q u, kvs[i]? = some (q, u) → i ∉ seen → KO P n c ops Q rest ((d, .tuple #[.bool true, ke q, u]) :: l) (hl.set j (blk b (itO m kvs.length (seen ++ [i])))) H) :
    KO P n c ops Q (⟨some d, .next x false, ty, pos, aft, none⟩ :: rest) l hl H := by
  have hp := perm_erase hj
  have hE := E_nextK (P := P) (ty := ty) (p := hl.eraseIdx j) hx (H := H) fun w hw => (hm.perm hp).heap hw
  refine KE (blk b (itO m kvs.length seen) :: hl.eraseIdx j) [] (by rw [List.append_nil]; exact hp) hE hdn ?_
  rintro v H' q _ ⟨rfl, ⟨rfl, rfl, hall⟩ | ⟨i, k, u, hk, hi, rfl, rfl⟩⟩
  · rw [List.append_nil]
    exact fun ρ w hm2 ho => h0 hall ρ w hm2 (ho.perm hp.symm)
  · rw [List.append_nil]
    exact fun ρ w hm2 ho => h1 i k u hk hi ρ w hm2 (ho.perm (perm_set hj))
theorem R_entryK {x : Operand} {b m i : Nat} {kvs : KVs} {seen : List Nat} {q : Int} {u : Value} (j : Nat) (hj : hl[j]? = some (blk b (itO m kvs.length (seen ++ [i])))) (hx : ev l x = some (ptr b)) (hm : MapAtK ke H hl m kvs) (hk : kvs[i]? = some (q, u)) :
    ValOk P l H hl (.entry x) ty (.tuple #[ke q, u]) := by
  intro e w hkn hw
  have hb : w.heap[b]? = some (.mapIter (some m) kvs.length ((seen.toArray).push i) kvs.length) := by
    have h := hw.own _ (List.mem_of_getElem? hj)
    have e2 : (seen ++ [i]).toArray = seen.toArray.push i := by simp
    have h2 : w.heap[b]? = some (itO m kvs.length (seen ++ [i])) := h
    rw [itO, e2] at h2
    exact h2
  have hmm : w.heap[m]? = some (.map (mkEsK ke kvs) kvs.length) := hm.heap hw
  have hin : (⟨ke q, u, i⟩ : MapEntry) ∈ (mkEsK ke kvs).toList := by
    have := mkEsK_get ke kvs i
    rw [hk] at this
    exact Array.mem_toList_iff.2 (Array.mem_of_getElem? this)
  have hnd : ((mkEsK ke kvs).toList.map (·.born)).Nodup := by
    have : (mkEsK ke kvs).toList.map (·.born) = List.range kvs.length := by
      apply List.ext_getElem?
      intro k
      rw [List.getElem?_map, Array.getElem?_toList, mkEsK_get]
      by_cases h : k < kvs.length
      · simp [h, entK]
      · simp [h]
    rw [this]; exact List.nodup_range
  have hr := run_entry_at (P := P) w b m kvs.length seen.toArray (mkEsK ke kvs) kvs.length ⟨ke q, u, i⟩ hb hmm hin hnd
  simp only [ex, execOp, hkn x _ hx, ptr, Sem.run_bind, hr, Result.andThen_ok, Sem.run_pure]
end
/-! ### Structs of ints asx keys -/
theorem lit_wf {a : Int} (h : i64ok a) : (Lit.int .i64 a).wf = true := by
  simp only [i64ok] at h
  simp [Lit.wf, IntKind.min, IntKind.max, IntKind.signed, IntKind.bits]; omega
theorem keyLits_int {P : Program} {ti : TypeId} (hi : P.underlying ti = some (.int .i64)) (d : Nat) {a : Int} (h : i64ok a) : P.keyLits (d + 1) ti [.int .i64 a] = some [.int .i64 a] := by
  unfold Program.keyLits
  rw [hi]
  simp [lit_wf h]
theorem keyLits_two {P : Program} {k ti : TypeId} {f1 f2 : Field} (hu : P.underlying k = some (.struct #[f1, f2])) (h1 : f1.type = ti ∧ f1.offset = 0 ∧ f1.name ≠ "_") (h2 : f2.type = ti ∧ f2.offset = 1 ∧ f2.name ≠ "_") (hi : P.underlying ti = some (.int .i64)) (hc : P.cellsOf k = 2) (hc1 : P.cellsOf ti = 1)
    (d : Nat) {a b : Int} (ha : i64ok a) (hb : i64ok b) : P.keyLits (d + 2) k [.int .i64 a, .int .i64 b] = some [.int .i64 a, .int .i64 b] := by
  unfold Program.keyLits
  rw [hu]
  obtain ⟨a1, a2, a3⟩ := h1
  obtain ⟨b1, b2, b3⟩ := h2
  simp [hc, hc1, a1, a2, a3, b1, b2, b3, keyLits_int hi d ha, keyLits_int hi d hb]
theorem keyLits_five {P : Program} {k kb ti : TypeId} {f1 f2 f3 : Field} (hu : P.underlying k = some (.struct #[f1, f2, f3])) (h1 : f1.type = ti ∧ f1.offset = 0 ∧ f1.name ≠ "_") (h2 : f2.type = kb ∧ f2.offset = 1 ∧ f2.name ≠ "_") (h3 : f3.type = kb ∧ f3.offset = 3 ∧ f3.name ≠ "_") (hi : P.underlying ti = some (.int .i64)) (hc : P.cellsOf k = 5) (hc1 : P.cellsOf ti = 1) (hc2 : P.cellsOf kb = 2)
    (hb2 : ∀ d {a b : Int}, i64ok a → i64ok b → P.keyLits (d + 2) kb [.int .i64 a, .int .i64 b] = some [.int .i64 a, .int .i64 b]) (d : Nat) {r a b s t : Int} (hr : i64ok r) (ha : i64ok a) (hb : i64ok b) (hs : i64ok s) (ht : i64ok t) :
    P.keyLits (d + 3) k [.int .i64 r, .int .i64 a, .int .i64 b, .int .i64 s, .int .i64 t] = some [.int .i64 r, .int .i64 a, .int .i64 b, .int .i64 s, .int .i64 t] := by
  unfold Program.keyLits
  rw [hu]
  obtain ⟨a1, a2, a3⟩ := h1
  obtain ⟨b1, b2, b3⟩ := h2
  obtain ⟨c1, c2, c3⟩ := h3
  simp [hc, hc1, hc2, a1, a2, a3, b1, b2, b3, c1, c2, c3, keyLits_int hi (d + 1) hr, hb2 d ha hb, hb2 d hs ht]
theorem keyOf_cells {P : Program} {k : TypeId} {fs : Array Field} {cs : Array Value} {ls : List Lit} (hu : P.underlying k = some (.struct fs)) (hk : P.keyType k = true) (hc : P.cellsOf k = cs.size) (hl : P.keyLits (P.types.size + 1) k cs.toList = some ls) : ∃ l, keyOf P k (.agg cs) = some l := by
  unfold keyOf
  rw [hu]
  have hf : Value.formed P k (.agg cs) = true := by
    unfold Value.formed
    rw [hu]
    simp [hc]
  simp only [hk, hf, Value.cells, hl, Bool.and_self, if_true, Option.map_some]
  exact ⟨_, rfl⟩
/-- A pair, and a rule with two pairs, from their numbers. -/
def keB (x : Int) : Value := .agg #[.int .i64 (x / 16), .int .i64 (x % 16)]
def GB (x : Int) : Prop := 0 ≤ x ∧ x < 256
def pcB (p q : Int) : Int := p * 16 + q
theorem keB_pair {p q : Int} (h : 0 ≤ q ∧ q < 16) : keB (pcB p q) = .agg #[.int .i64 p, .int .i64 q] := by
  unfold keB pcB
  rw [show (p * 16 + q) / 16 = p by omega, show (p * 16 + q) % 16 = q by omega]
theorem pcB_ok {p q : Int} (hp : 0 ≤ p ∧ p < 16) (hq : 0 ≤ q ∧ q < 16) : GB (pcB p q) := by unfold GB pcB; omega
def keD (x : Int) : Value := .agg #[.int .i64 (x / 65536), .int .i64 (x / 4096 % 16), .int .i64 (x / 256 % 16), .int .i64 (x / 16 % 16), .int .i64 (x % 16)]
def GD (x : Int) : Prop := 0 ≤ x ∧ x < 4294967296
def pcD (r a b s t : Int) : Int := r * 65536 + a * 4096 + b * 256 + s * 16 + t
theorem keD_five {r a b s t : Int} (ha : 0 ≤ a ∧ a < 16) (hb : 0 ≤ b ∧ b < 16) (hs : 0 ≤ s ∧ s < 16) (ht : 0 ≤ t ∧ t < 16) : keD (pcD r a b s t) = .agg #[.int .i64 r, .int .i64 a, .int .i64 b, .int .i64 s, .int .i64 t] := by
  unfold keD pcD
  rw [show (r * 65536 + a * 4096 + b * 256 + s * 16 + t) / 65536 = r by omega, show (r * 65536 + a * 4096 + b * 256 + s * 16 + t) / 4096 % 16 = a by omega, show (r * 65536 + a * 4096 + b * 256 + s * 16 + t) / 256 % 16 = b by omega, show (r * 65536 + a * 4096 + b * 256 + s * 16 + t) / 16 % 16 = s by omega, show (r * 65536 + a * 4096 + b * 256 + s * 16 + t) % 16 = t by omega]
theorem pcD_ok {r a b s t : Int} (hr : 0 ≤ r ∧ r < 65536) (ha : 0 ≤ a ∧ a < 16) (hb : 0 ≤ b ∧ b < 16) (hs : 0 ≤ s ∧ s < 16) (ht : 0 ≤ t ∧ t < 16) : GD (pcD r a b s t) := by unfold GD pcD; omega
theorem keB_law {P : Program} {k ti : TypeId} {f1 f2 : Field} (hl : laidOutB P = true) (hrow : Nat.blt k P.types.size = true) (hkt : P.keyTypeAt 8 k = true) (hk : P.keyType k = true) (hu : P.underlying k = some (.struct #[f1, f2])) (h1 : f1.type = ti ∧ f1.offset = 0 ∧ f1.name ≠ "_") (h2 : f2.type = ti ∧ f2.offset = 1 ∧ f2.name ≠ "_")
    (hi : P.underlying ti = some (.int .i64)) (hc : P.cellsOf k = 2) (hc1 : P.cellsOf ti = 1) (hs : Nat.blt 3 P.types.size = true) : KeyL P k keB GB := by
  have hs' : 3 < P.types.size := Nat.blt_eq.mp hs
  refine KeyL.of (deep_law_laid hl (m := 8) (by decide) (Nat.blt_eq.mp hrow) hkt (by rw [hu])) (fun q hq => ?_) fun p q _ _ e => ?_
  · refine keyOf_cells hu hk hc (ls := [.int .i64 (q / 16), .int .i64 (q % 16)]) ?_
    obtain ⟨d, hd⟩ : ∃ d, P.types.size + 1 = d + 2 := ⟨P.types.size - 1, by omega⟩
    rw [hd]
    unfold GB at hq
    exact keyLits_two hu h1 h2 hi hc hc1 d (by simp only [i64ok]; omega) (by simp only [i64ok]; omega)
  · unfold keB at e
    injection e with e
    have e2 := congrArg Array.toList e
    simp at e2
    omega
theorem keD_law {P : Program} {k kb ti : TypeId} {f1 f2 f3 g1 g2 : Field} (hl : laidOutB P = true) (hrow : Nat.blt k P.types.size = true) (hkt : P.keyTypeAt 8 k = true) (hk : P.keyType k = true) (hu : P.underlying k = some (.struct #[f1, f2, f3])) (h1 : f1.type = ti ∧ f1.offset = 0 ∧ f1.name ≠ "_") (h2 : f2.type = kb ∧ f2.offset = 1 ∧ f2.name ≠ "_") (h3 : f3.type = kb ∧ f3.offset = 3 ∧ f3.name ≠ "_")
    (hv : P.underlying kb = some (.struct #[g1, g2])) (i1 : g1.type = ti ∧ g1.offset = 0 ∧ g1.name ≠ "_") (i2 : g2.type = ti ∧ g2.offset = 1 ∧ g2.name ≠ "_") (hi : P.underlying ti = some (.int .i64)) (hc : P.cellsOf k = 5) (hc1 : P.cellsOf ti = 1) (hc2 : P.cellsOf kb = 2) (hs : Nat.blt 3 P.types.size = true) : KeyL P k keD GD := by
  have hs' : 3 < P.types.size := Nat.blt_eq.mp hs
  refine KeyL.of (deep_law_laid hl (m := 8) (by decide) (Nat.blt_eq.mp hrow) hkt (by rw [hu])) (fun q hq => ?_) fun p q _ _ e => ?_
  · refine keyOf_cells hu hk hc (ls := [.int .i64 (q / 65536), .int .i64 (q / 4096 % 16), .int .i64 (q / 256 % 16), .int .i64 (q / 16 % 16), .int .i64 (q % 16)]) ?_
    obtain ⟨d, hd⟩ : ∃ d, P.types.size + 1 = d + 3 := ⟨P.types.size - 2, by omega⟩
    rw [hd]
    unfold GD at hq
    exact keyLits_five hu h1 h2 h3 hi hc hc1 hc2 (fun d {_ _} ha hb => keyLits_two hv i1 i2 hi hc2 hc1 d ha hb) d (by simp only [i64ok]; omega) (by simp only [i64ok]; omega) (by simp only [i64ok]; omega) (by simp only [i64ok]; omega) (by simp only [i64ok]; omega)
  · unfold keD at e
    injection e with e
    have e2 := congrArg Array.toList e
    simp at e2
    omega
end Pal

/-
  Arrays of trees; the least tree of one state. Own work. No statement of the seat is proved here.
-/
namespace Pal
open Go Go.Proofs Go.Proofs.X
theorem LeastOf.one {b : BT} {s : Int} : ∀ {o : Option Tr}, LeastOf b (fun p => decide (p = s) = true) o → o = b s
  | none, h => (h s (decide_eq_true rfl)).symm
  | some t, ⟨⟨q, h1, h2⟩, _⟩ => by rw [of_decide_eq_true h1] at h2; exact h2.symm
abbrev TV := Value × Value
/-- The trees at the places of a function. -/
def TVs (H : View) (it : List TV) (f : Nat → Tr) : Prop := ∀ i (h : i < it.length), RepT H (f i) [it[i].1, it[i].2]
theorem TVs.mono {H H' : View} {it : List TV} {f : Nat → Tr} (h : TVs H it f) (hle : VLe H H') : TVs H' it f := fun i hi => (h i hi).mono hle
theorem TVs.set {H : View} {it : List TV} {f g : Nat → Tr} (h : TVs H it f) {k : Nat} {x y : Value} (hk : RepT H (g k) [x, y]) (hg : ∀ i, i ≠ k → g i = f i) : TVs H (it.set k (x, y)) g := by
  intro i hi
  rw [List.length_set] at hi
  rw [List.getElem_set]
  by_cases e : k = i
  · subst e; simpa using hk
  · simp only [if_neg e]
    rw [hg i fun h => e h.symm]
    exact h i hi
theorem TVs.congr {H : View} {it : List TV} {f g : Nat → Tr} (h : TVs H it f) (hg : ∀ i, i < it.length → g i = f i) : TVs H it g := fun i hi => by rw [hg i hi]; exact h i hi
theorem TVs.made (H : View) (n : Nat) (f : Nat → Tr) (hf : ∀ i, f i = .node 0 []) : TVs H (List.replicate n (.int .i64 0, .slice none 0 0)) f := by
  intro i hi
  rw [hf, List.getElem_replicate]
  exact repT_leaf H 0 (by simp [i64ok])
section rules
variable {P : Program} {n : Nat} {c : Cx} {l : KL} {hl : HL} {H : View} {v : Value} {ty : TypeId} {pos : String} {aft : Array Edge} {g : Option (Nat × Bool)} {ol : List Oper} {keep : HL} {fin : Bool} {T : ST} {R : List Nat} {i : Nat}
end rules
theorem map_take {f : Int → Tr} {qs : List Int} {i : Nat} (hi : i < qs.length) : (qs.take (i + 1)).map f = (qs.take i).map f ++ [f qs[i]] := by
  rw [List.take_succ_eq_append_getElem hi, List.map_append]; rfl
theorem LeastOf.size {rs : List Rl} {b : BT} (hI : InvB rs b) {F : Int → Prop} : ∀ {o : Option Tr}, LeastOf b F o → (o.getD (.node 0 [])).size ≤ 4096
  | none, _ => by decide
  | some t, ⟨⟨q, _, h⟩, _⟩ => (hI q t h).2
end Pal

/-
  Transitions over pairs of states, coded by numbers. Own work. No statement of the seat is proved here.
-/
namespace Pal
open Go Go.Proofs Go.Proofs.X
def RPb (x : Int) (cs : List Value) : Prop := cs = [.int .i64 (x / 16), .int .i64 (x % 16)]
def RepS (H : View) (r : Rl) (cs : List Value) : Prop := ∃ a cp cells, cs = [.int .i64 r.sym, .slice a r.args.length cp, .int .i64 (r.to / 16), .int .i64 (r.to % 16)] ∧ SlAt H (.slice a r.args.length cp) r.args.length cells ∧ RepL RPb 2 r.args cells ∧ i64ok r.sym
theorem RepS.mono {H H' : View} {r : Rl} {cs : List Value} (h : RepS H r cs) (hle : VLe H H') : RepS H' r cs := by
  obtain ⟨a, cp, cells, h1, h2, h3, h4⟩ := h
  exact ⟨a, cp, cells, h1, h2.mono hle, h3, h4⟩
theorem RepS.shape {H : View} {r : Rl} {cs : List Value} (h : RepS H r cs) : ∃ a cp, cs = [.int .i64 r.sym, .slice a r.args.length cp, .int .i64 (r.to / 16), .int .i64 (r.to % 16)] := by
  obtain ⟨a, cp, cells, h1, h2, h3, h4⟩ := h
  exact ⟨a, cp, h1⟩
theorem au_good {a : Au} (hok : AuOk a) {q : Int} (h : 0 ≤ q ∧ q < a.states) : GB q := by
  have := hok.st
  unfold GB; omega
theorem MapAtK.at {ke : Int → Value} {H : View} {hl : HL} {b : Nat} {kvs : KVs} (j : Nat) (hj : hl[j]? = some (blk b (mapObK ke kvs))) : MapAtK ke H hl b kvs := .inr (List.mem_of_getElem? hj)
end Pal

/-
  The rules of a deterministic automaton, one after the other. Own work. No statement of the seat is proved here.
-/
namespace Pal
open Go Go.Proofs Go.Proofs.X
theorem digs_one {n p : Nat} (h : p < n) : digs n 1 p = [(p : Int)] := by
  simp only [digs, List.nil_append]
  rw [Nat.mod_eq_of_lt h]
theorem digs_two {n p : Nat} (h : p < n * n) : digs n 2 p = [((p / n : Nat) : Int), ((p % n : Nat) : Int)] := by
  simp only [digs, List.nil_append, List.cons_append]
  rw [Nat.mod_eq_of_lt (Nat.div_lt_of_lt_mul h)]
theorem rd1_len {d : Dt} (hok : DtOk d) {s : Nat} (hs : s < d.ranks.length) (h2 : s < d.to.length) : (rulesD1 d s).length = d.to[s].length := by
  have hw := hok.w s hs
  rw [show d.to.getD s [] = d.to[s] by simp [List.getD, h2]] at hw
  unfold rulesD1; rw [List.length_map, tups_len, hw]
theorem rd1_get {d : Dt} {s p : Nat} (h2 : s < d.to.length) (hp : p < d.to[s].length) (h3 : p < (rulesD1 d s).length) : (rulesD1 d s)[p] = ⟨(s : Int), digs d.acc.length (d.ranks.getD s 0).toNat p, d.to[s][p]⟩ := by
  have hg : d.to.getD s [] = d.to[s] := by simp [List.getD, h2]
  have h4 : p < (tups d.acc.length (d.ranks.getD s 0).toNat).length := by
    unfold rulesD1 at h3; simpa using h3
  have e : (rulesD1 d s)[p] = ⟨(s : Int), (tups d.acc.length (d.ranks.getD s 0).toNat)[p]'h4, atM d (s : Int) ((tups d.acc.length (d.ranks.getD s 0).toNat)[p]'h4)⟩ := by
    simp [rulesD1]
  rw [e]
  have e2 : atM d (s : Int) ((tups d.acc.length (d.ranks.getD s 0).toNat)[p]'h4) = d.to[s][p] := by
    unfold atM
    rw [Int.toNat_natCast, hg, tups_at h4, Int.toNat_natCast]
    simp [List.getD, hp]
  rw [e2, digs_tups2 h4]
def ruS (d : Dt) (s : Nat) : List Rl := (List.range s).flatMap (rulesD1 d)
def ruP (d : Dt) (s p : Nat) : List Rl := ruS d s ++ (rulesD1 d s).take p
theorem ruP_zero (d : Dt) (s : Nat) : ruP d s 0 = ruS d s := by unfold ruP; simp
theorem ruP_full (d : Dt) (s : Nat) : ruP d s (rulesD1 d s).length = ruS d (s + 1) := by unfold ruP ruS; rw [List.take_length, List.range_succ, List.flatMap_append]; simp
theorem ruP_succ {d : Dt} {s p : Nat} (h : p < (rulesD1 d s).length) : ruP d s (p + 1) = ruP d s p ++ [(rulesD1 d s)[p]] := by unfold ruP; rw [List.take_succ_eq_append_getElem h, List.append_assoc]
theorem ruS_all (d : Dt) : ruS d d.ranks.length = rulesD d := rfl
theorem ruS_len {d : Dt} {B : Nat} (hB : ∀ s, s < d.ranks.length → (rulesD1 d s).length ≤ B) : ∀ s, s ≤ d.ranks.length → (ruS d s).length ≤ s * B
  | 0, _ => by simp [ruS]
  | s + 1, h => by
    have h1 := ruS_len hB s (by omega)
    have h2 := hB s (by omega)
    unfold ruS at h1 ⊢
    rw [List.range_succ, List.flatMap_append, List.length_append, Nat.succ_mul]
    simp only [List.flatMap_cons, List.flatMap_nil, List.append_nil]
    omega
theorem rd1_small {d : Dt} (hok : DtOk d) (hn : d.acc.length ≤ 8) {s : Nat} (hs : s < d.ranks.length) : (rulesD1 d s).length ≤ 64 := by
  have h := dt_ranks hok s hs
  unfold rulesD1
  rw [List.length_map, tups_len]
  have h2 : (d.ranks.getD s 0).toNat ≤ 2 := by omega
  calc d.acc.length ^ (d.ranks.getD s 0).toNat ≤ 8 ^ (d.ranks.getD s 0).toNat := Nat.pow_le_pow_left hn _
    _ ≤ 8 ^ 2 := Nat.pow_le_pow_right (by decide) h2
theorem ruP_len {d : Dt} (hok : DtOk d) (hn : d.acc.length ≤ 8) (h8 : d.ranks.length ≤ 8) {s p : Nat} (hs : s < d.ranks.length) : (ruP d s p).length ≤ 576 := by
  have h1 := ruS_len (B := 64) (fun z hz => rd1_small hok hn hz) s (by omega)
  have h2 := rd1_small hok hn hs
  unfold ruP
  rw [List.length_append, List.length_take]
  omega
theorem rulesD_max {d : Dt} (hok : DtOk d) (hn : d.acc.length ≤ 8) (h8 : d.ranks.length ≤ 8) : (rulesD d).length ≤ 512 := by
  have h1 := ruS_len (B := 64) (fun z hz => rd1_small hok hn hz) d.ranks.length (Nat.le_refl _)
  rw [ruS_all] at h1
  omega
theorem quo_nat {p n : Nat} (h : p < 1000000) : IntKind.i64.wrap ((p : Int).tdiv (n : Int)) = ((p / n : Nat) : Int) := by
  have e : (p : Int).tdiv (n : Int) = ((p / n : Nat) : Int) := by rw [Int.tdiv_eq_ediv_of_nonneg (by omega)]; rfl
  rw [e]
  have := Nat.div_le_self p n
  exact wrap64 (by generalize p / n = z at *; omega)
theorem rem_nat (p n : Nat) : (p : Int).tmod (n : Int) = ((p % n : Nat) : Int) := by rw [Int.tmod_eq_emod_of_nonneg (by omega)]; rfl
end Pal

/-
  A map of owned rows of ints; the lists of paired states. Own work. No statement of the seat is proved here.
-/
namespace Pal
open Go Go.Proofs Go.Proofs.X
def ofK (ps : List (Rl × Value)) : KVs := ps.map fun p => (p.1.sym, p.2)
def ofQ (ps : List (Rl × Value)) (q : Int) : List Int := match findI q (ofK ps) 0 with
  | some (i, _) => (ps.getD i nilP).1.args
  | none => []
def ofV (ps : List (Rl × Value)) (q : Int) : Value := (lookI (ofK ps) q).getD nilS
theorem ofK_get {ps : List (Rl × Value)} {i : Nat} {q : Int} {v : Value} (h : (ofK ps)[i]? = some (q, v)) : ∃ hi : i < ps.length, ps[i].1.sym = q ∧ ps[i].2 = v := by
  unfold ofK at h
  rw [List.getElem?_map] at h
  cases hp : ps[i]? with
  | none => rw [hp] at h; cases h
  | some p =>
    rw [hp] at h
    cases h
    obtain ⟨h1, h2⟩ := List.getElem?_eq_some_iff.1 hp
    exact ⟨h1, by rw [h2], by rw [h2]⟩
/-- What is known of the entry of a key. -/
def OfAt (T : TypeId) (ps : List (Rl × Value)) (q : Int) : Prop := ∃ a cp, ofV ps q = .slice a (ofQ ps q).length cp ∧ ∀ i, i < (ofQ ps q).length → ∃ b, a = some ⟨b, 0, none⟩ ∧ row (.slice (some ⟨b, 0, none⟩) (ofQ ps q).length cp) T 1 (ofQ ps q).length (ints (ofQ ps q)) ∈ rowsFrom T ps
section rules
variable {P : Program} {n : Nat} {c : Cx} {l : KL} {hl : HL} {H : View} {v : Value} {ty : TypeId} {Q : Exit → Act → World → Prop}
theorem of_shape {w : World} {T : TypeId} {ps : List (Rl × Value)} (h : ∀ e ∈ rowsFrom T ps, e.holds (heapOf w)) (q : Int) : OfAt T ps q := by
  unfold OfAt ofV ofQ lookI
  cases hf : findI q (ofK ps) 0 with
  | none => exact ⟨none, 0, rfl, fun i hi => absurd hi (Nat.not_lt_zero _)⟩
  | some r =>
    obtain ⟨i, u⟩ := r
    obtain ⟨_, h2, _⟩ := findI_some hf
    rw [Nat.sub_zero] at h2
    obtain ⟨hi, h3, h4⟩ := ofK_get h2
    have hg : (ps.getD i nilP) = ps[i] := by simp [List.getD, hi]
    simp only [Option.map_some, Option.getD_some, hg]
    have hm : row ps[i].2 T 1 ps[i].1.args.length (ints ps[i].1.args) ∈ rowsFrom T ps := List.mem_map.2 ⟨ps[i], List.getElem_mem hi, rfl⟩
    have hh := h _ hm
    rcases hh.2 with ⟨e1, e2⟩ | ⟨g, cap, cur, e1, _⟩
    · refine ⟨none, 0, by rw [← h4, e1, e2], fun j hj => by omega⟩
    · refine ⟨some ⟨g, 0, none⟩, cap, by rw [← h4, e1], fun j hj => ⟨g, rfl, ?_⟩⟩
      rw [← e1]; exact hm
theorem KC_ofshape {code : Code} {T : TypeId} {ps : List (Rl × Value)} (j : Nat) (hj : hl[j]? = some (many (rowsFrom T ps))) (q : Int) (h : OfAt T ps q → KC P n c code Q l hl H) : KC P n c code Q l hl H :=
  fun ρ w hm ho => h (of_shape (ho.own _ (List.mem_of_getElem? hj)) q) ρ w hm ho
theorem R_loadMR {t : TypeId} {x : Operand} {b off : Nat} {e : TypeId} {k cap : Nat} {xs : List Value} {p : HL} (hT : Ty P t false 1) (i : Nat) (hx : ev l x = some (.pointer (some ⟨b, off, none⟩)))
    (hi : hl[i]? = some (many p)) (hp : row (.slice (some ⟨b, 0, none⟩) k cap) e 1 k xs ∈ p) (hv : xs[off]? = some v) : ValOk P l H hl (.load t x) ty v :=
  (fun ee w hk ho => by
    have hr := ho.own _ (List.mem_of_getElem? hi) _ hp
    rcases hr.2 with ⟨h1, _⟩ | ⟨g, cap', cur, hg, hb, _, _, _, htk⟩
    · cases h1
    · cases hg
      have hb' : w.heap[b]? = some (.cells cur e (0, 0)) := hb
      have hcv : cur[off]? = some v := by
        rw [← htk, List.getElem?_take] at hv
        split at hv
        · simpa using hv
        · cases hv
      have hc : ∀ j u, [v][j]? = some u → w.cell? ((⟨b, off, none⟩ : Addr).add j) = some u := by
        intro j u hj
        rw [addr_add]
        match j, hj with
        | 0, hj => simp at hj; subst hj; simp [World.cell?, hb']; simpa using hcv
      have := run_loadVar hT (vs := [v]) rfl (fun _ => rfl) w hc
      simp [ex, execOp, hk x _ hx, Instr.loadAt, Instr.sureAddr, this]
      rfl)
end rules
/-! ### Lists of paired states -/
def oneP (f : Int → List Int) (l : List Int) (x : Int) : List (List Int) := (f x).map fun q => l ++ [q]
def outP (f : Int → List Int) (out : List (List Int)) (x : Int) : List (List Int) := out.flatMap fun l => oneP f l x
def listsP (f : Int → List Int) (xs : List Int) : List (List Int) := xs.foldl (outP f) [[]]
theorem listsP_succ {f : Int → List Int} {xs : List Int} {i : Nat} (h : i < xs.length) : listsP f (xs.take (i + 1)) = outP f (listsP f (xs.take i)) xs[i] := by
  unfold listsP; rw [List.take_succ_eq_append_getElem h, List.foldl_append]; rfl
theorem outP_succ {f : Int → List Int} {out : List (List Int)} {x : Int} {j : Nat} (h : j < out.length) : outP f (out.take (j + 1)) x = outP f (out.take j) x ++ oneP f out[j] x := by
  unfold outP; rw [List.take_succ_eq_append_getElem h, List.flatMap_append]; simp
def oneT' (f : Int → List Int) (l : List Int) (x : Int) (k : Nat) : List (List Int) := ((f x).take k).map fun q => l ++ [q]
theorem oneT'_succ {f : Int → List Int} {l : List Int} {x : Int} {k : Nat} (h : k < (f x).length) : oneT' f l x (k + 1) = oneT' f l x k ++ [l ++ [(f x)[k]]] := by
  unfold oneT'; rw [List.take_succ_eq_append_getElem h, List.map_append]; rfl
theorem oneT'_all (f : Int → List Int) (l : List Int) (x : Int) : oneT' f l x (f x).length = oneP f l x := by unfold oneT' oneP; rw [List.take_length]
theorem outP_len {f : Int → List Int} {B : Nat} (hf : ∀ x, (f x).length ≤ B) (x : Int) : ∀ out : List (List Int), (outP f out x).length ≤ out.length * B
  | [] => by simp [outP]
  | l :: out => by
    have ih := outP_len hf x out
    unfold outP at ih ⊢
    rw [List.flatMap_cons, List.length_append, List.length_cons, Nat.succ_mul]
    have h1 : (oneP f l x).length ≤ B := by unfold oneP; rw [List.length_map]; exact hf x
    omega
theorem listsP_len {f : Int → List Int} {B : Nat} (hf : ∀ x, (f x).length ≤ B) (xs : List Int) : ∀ i, i ≤ xs.length → (listsP f (xs.take i)).length ≤ B ^ i
  | 0, _ => by simp [listsP]
  | i + 1, h => by
    rw [listsP_succ (by omega)]
    refine Nat.le_trans (outP_len hf _ _) ?_
    rw [Nat.pow_succ]
    exact Nat.mul_le_mul_right _ (listsP_len hf xs i (by omega))
theorem mem_listsP {f : Int → List Int} : ∀ {xs : List Int} {i : Nat} {l : List Int}, i ≤ xs.length → l ∈ listsP f (xs.take i) → l.length = i ∧ ∀ j (h : j < l.length) (h2 : j < xs.length), l[j] ∈ f xs[j]
  | xs, 0, l, _, h => by
    simp [listsP] at h
    subst h
    exact ⟨rfl, fun j h => absurd h (Nat.not_lt_zero _)⟩
  | xs, i + 1, l, hi, h => by
    rw [listsP_succ (by omega)] at h
    obtain ⟨m, hm, h⟩ := List.mem_flatMap.1 h
    obtain ⟨q, hq, rfl⟩ := List.mem_map.1 h
    obtain ⟨h1, h2⟩ := mem_listsP (by omega) hm
    refine ⟨by rw [List.length_append, h1]; rfl, fun j hj hj2 => ?_⟩
    rw [List.length_append, h1] at hj
    simp only [List.length_cons, List.length_nil] at hj
    by_cases e : j = i
    · subst e
      rw [List.getElem_append_right (by omega)]
      simpa [h1] using hq
    · rw [List.getElem_append_left (by omega)]
      exact h2 j (by omega) hj2
theorem ints_at {xs : List Int} {k off : Nat} (h : k < xs.length) (ho : off = k) : (ints xs)[off]? = some (.int .i64 xs[k]) := by
  subst ho; simp [ints, h]
theorem rsi_snoc {V : View} {a : Option Addr} {k : Nat} {l : List Int} {x : Int} (h : SlAt V (.slice a (l.length + 1) k) (l.length + 1) (ints l ++ [.int .i64 x])) (hi : ∀ y ∈ l ++ [x], i64ok y) : RSI V (l ++ [x]) [.slice a (l.length + 1) k] := by
  refine ⟨_, rfl, ?_, hi⟩
  rw [ints_snoc]
  have e : (l ++ [x]).length = l.length + 1 := by simp
  rw [e]; exact h
end Pal

/-
  Reachable pairs of states: what the program's maps hold while it looks for them. Own work. No statement of the seat is proved here.
-/
namespace Pal
open Go Go.Proofs Go.Proofs.X
theorem findI_keys {q : Int} : ∀ {kvs kvs' : KVs} (j : Nat), kvs.map (·.1) = kvs'.map (·.1) → (findI q kvs j).map (·.1) = (findI q kvs' j).map (·.1)
  | [], [], _, _ => rfl
  | [], _ :: _, _, h => by simp at h
  | _ :: _, [], _, h => by simp at h
  | a :: r, b :: s, j, h => by
    simp only [List.map_cons, List.cons.injEq] at h
    simp only [findI, h.1]
    split
    · rfl
    · exact findI_keys (j + 1) h.2
theorem findI_snoc {q : Int} {e : Int × Value} : ∀ {kvs : KVs} (j : Nat), findI q (kvs ++ [e]) j = match findI q kvs j with
    | some r => some r
    | none => if q = e.1 then some (j + kvs.length, e.2) else none
  | [], j => by simp [findI]
  | a :: r, j => by
    simp only [List.cons_append, findI]
    by_cases h : q = a.1
    · rw [if_pos h, if_pos h]
    · rw [if_neg h, if_neg h, findI_snoc (kvs := r) (j + 1)]
      simp only [List.length_cons]
      rw [show j + 1 + r.length = j + (r.length + 1) by omega]
theorem ofQ_idx (ps : List (Rl × Value)) (q : Int) : ofQ ps q = match (findI q (ofK ps) 0).map (·.1) with
    | some i => (ps.getD i nilP).1.args
    | none => [] := by
  unfold ofQ
  cases findI q (ofK ps) 0 with
  | none => rfl
  | some r => rfl
/-- One more state is paired: an entry that is there. -/
theorem ofK_old {ps : List (Rl × Value)} {i : Nat} {q : Int} {u v : Value} {l : List Int} (hf : findI q (ofK ps) 0 = some (i, u)) : ofK (ps.take i ++ (⟨q, l, 0⟩, v) :: ps.drop (i + 1)) = setI (ofK ps) q v := by
  obtain ⟨_, h2, _⟩ := findI_some hf
  rw [Nat.sub_zero] at h2
  obtain ⟨hi, h3, h4⟩ := ofK_get h2
  unfold setI
  rw [hf]
  dsimp only
  have hl : i < (ofK ps).length := by simpa [ofK] using hi
  rw [List.set_eq_take_append_cons_drop, if_pos hl]
  unfold ofK
  rw [List.map_append, List.map_cons, List.map_take, List.map_drop]
theorem old_is {ps : List (Rl × Value)} {i : Nat} {q : Int} {u : Value} (hf : findI q (ofK ps) 0 = some (i, u)) : ∃ hi : i < ps.length, ps[i].1.sym = q ∧ ps[i].2 = u ∧ ofQ ps q = ps[i].1.args := by
  obtain ⟨_, h2, _⟩ := findI_some hf
  rw [Nat.sub_zero] at h2
  obtain ⟨hi, h3, h4⟩ := ofK_get h2
  refine ⟨hi, h3, h4, ?_⟩
  unfold ofQ
  rw [hf]
  simp [List.getD, hi]
theorem ofQ_old {ps : List (Rl × Value)} {i : Nat} {q : Int} {u v : Value} {x : Int} (hf : findI q (ofK ps) 0 = some (i, u)) (p : Int) : ofQ (ps.take i ++ (⟨q, ofQ ps q ++ [x], 0⟩, v) :: ps.drop (i + 1)) p = if p = q then ofQ ps p ++ [x] else ofQ ps p := by
  obtain ⟨hi, h3, h4, h5⟩ := old_is hf
  have hkeys : (ofK (ps.take i ++ (⟨q, ofQ ps q ++ [x], 0⟩, v) :: ps.drop (i + 1))).map (·.1) = (ofK ps).map (·.1) := by
    have e : ps = ps.take i ++ ps[i] :: ps.drop (i + 1) := by simp
    conv => rhs; rw [e]
    unfold ofK
    simp only [List.map_append, List.map_cons, h3]
  have hlen : (ps.take i).length = i := by rw [List.length_take]; omega
  rw [ofQ_idx, findI_keys 0 hkeys, ofQ_idx ps p]
  by_cases e : p = q
  · subst e
    rw [if_pos rfl, hf]
    simp only [Option.map_some]
    rw [h5]
    have e1 : (ps.take i ++ ((⟨p, ps[i].1.args ++ [x], 0⟩ : Rl), v) :: ps.drop (i + 1)).getD i nilP = ((⟨p, ps[i].1.args ++ [x], 0⟩ : Rl), v) := by
      rw [List.getD_eq_getElem?_getD, List.getElem?_append_right (by omega), hlen]; simp
    rw [e1]
    simp [List.getD, hi]
  · rw [if_neg e]
    cases hp : findI p (ofK ps) 0 with
    | none => rfl
    | some r =>
      obtain ⟨k, w⟩ := r
      obtain ⟨hk, g3, _, _⟩ := old_is hp
      simp only [Option.map_some]
      have hki : k ≠ i := fun h => e (by subst h; rw [← g3, h3])
      congr 2
      rw [List.getD_eq_getElem?_getD, List.getD_eq_getElem?_getD]
      congr 1
      rcases Nat.lt_or_gt_of_ne hki with h | h
      · rw [List.getElem?_append_left (by omega), List.getElem?_take_of_lt h]
      · rw [List.getElem?_append_right (by omega), hlen, show k - i = (k - i - 1) + 1 by omega, List.getElem?_cons_succ, List.getElem?_drop, show i + 1 + (k - i - 1) = k by omega]
/-- A new entry. -/
theorem ofK_new {ps : List (Rl × Value)} {q : Int} {v : Value} {l : List Int} (hf : findI q (ofK ps) 0 = none) : ofK (ps ++ [(⟨q, l, 0⟩, v)]) = setI (ofK ps) q v := by
  unfold setI; rw [hf]; simp [ofK]
theorem ofQ_new {ps : List (Rl × Value)} {q : Int} {v : Value} {x : Int} (hf : findI q (ofK ps) 0 = none) (p : Int) : ofQ (ps ++ [(⟨q, ofQ ps q ++ [x], 0⟩, v)]) p = if p = q then ofQ ps p ++ [x] else ofQ ps p := by
  have e0 : ofQ ps q = [] := by unfold ofQ; rw [hf]
  have e1 : ofK (ps ++ [(⟨q, ofQ ps q ++ [x], 0⟩, v)]) = ofK ps ++ [(q, v)] := by simp [ofK]
  rw [ofQ_idx, e1, findI_snoc, ofQ_idx ps p]
  cases hp : findI p (ofK ps) 0 with
  | none =>
    by_cases e : p = q
    · subst e
      simp [ofK, e0, List.getD]
    · simp [e]
  | some r =>
    obtain ⟨k, w⟩ := r
    obtain ⟨hk, g3, _, _⟩ := old_is hp
    have hne : p ≠ q := fun h => by subst h; rw [hf] at hp; cases hp
    simp only [Option.map_some, if_neg hne]
    congr 2
    rw [List.getD_eq_getElem?_getD, List.getD_eq_getElem?_getD, List.getElem?_append_left hk]
/-! ### What holds meanwhile -/
def fstA (rs : List Rl) (i : Nat) : Int := (rs.getD i ⟨0, [], 0⟩).args.getD 0 0
def sndA (rs : List Rl) (i : Nat) : Int := (rs.getD i ⟨0, [], 0⟩).args.getD 1 0
structure RsOk (rs : List Rl) (e : Dt) (D : Int → Int → Prop) : Prop where
  ul : rs.length ≤ 512
  sy : ∀ r ∈ rs, 0 ≤ r.sym ∧ r.sym < e.ranks.length ∧ (r.args.length : Int) = e.ranks.getD r.sym.toNat 0
  ar : ∀ r ∈ rs, ∀ q ∈ r.args, 0 ≤ q ∧ q < 8
  to : ∀ r ∈ rs, 0 ≤ r.to ∧ r.to < 8
  cl : ∀ r ∈ rs, ∀ l : List Int, l.length = r.args.length → (∀ x ∈ l, 0 ≤ x ∧ x < (e.acc.length : Int)) → (∀ j (h : j < l.length) (h2 : j < r.args.length), D r.args[j] l[j]) → D r.to (atM e r.sym l)
def StepOk (e : Dt) (D : Int → Int → Prop) (s : Rl) : Prop := (0 ≤ s.sym ∧ s.sym < e.ranks.length ∧ (s.args.length : Int) = e.ranks.getD s.sym.toNat 0) ∧ (∀ x ∈ s.args, GB x ∧ (0 ≤ x % 16 ∧ x % 16 < (e.acc.length : Int)) ∧ D (x / 16) (x % 16)) ∧ GB s.to ∧ (0 ≤ s.to % 16 ∧ s.to % 16 < (e.acc.length : Int)) ∧ (0 ≤ s.to / 16 ∧ s.to / 16 < 8) ∧ D (s.to / 16) (s.to % 16)
structure PI (rs : List Rl) (e : Dt) (D : Int → Int → Prop) (come had : KVs) (ps : List (Rl × Value)) (out : List Rl) : Prop where
  co : GoodK GB come
  ha : GoodK GD had
  cv : ∀ p ∈ come, p.2 = .bool true
  hv : ∀ p ∈ had, p.2 = .bool true
  kn : ((ofK ps).map (·.1)).Nodup
  of : ∀ p q, q ∈ ofQ ps p → (0 ≤ p ∧ p < 8) ∧ (0 ≤ q ∧ q < (e.acc.length : Int)) ∧ D p q ∧ (lookI come (pcB p q)).isSome = true
  nd : ∀ p, (ofQ ps p).Nodup
  hk : ∀ x ∈ had.map (·.1), ∃ i : Nat, ∃ b t : Int, i < rs.length ∧ (0 ≤ b ∧ b < 10) ∧ (0 ≤ t ∧ t < 10) ∧ x = pcD i (fstA rs i) b (sndA rs i) t
  ln : out.length = had.length
  st : ∀ s ∈ out, StepOk e D s
  p3 : ∀ i (h : i < rs.length), rs[i].args = [] → (lookI had (pcD i 0 0 0 0)).isSome = true → ∃ s ∈ out, s.sym = rs[i].sym ∧ s.args = []
theorem PI.zero (rs : List Rl) (e : Dt) (D : Int → Int → Prop) : PI rs e D [] [] [] [] :=
  ⟨.nil _, .nil _, fun p h => (by cases h), fun p h => (by cases h), List.nodup_nil, fun p q h => (by cases h), fun _ => List.nodup_nil, fun x h => (by cases h), rfl, fun s h => (by cases h), fun i h _ h2 => (by cases h2)⟩
theorem fst_ok {rs : List Rl} {e : Dt} {D : Int → Int → Prop} (h : RsOk rs e D) (i : Nat) : (0 ≤ fstA rs i ∧ fstA rs i < 8) ∧ (0 ≤ sndA rs i ∧ sndA rs i < 8) := by
  unfold fstA sndA
  by_cases hi : i < rs.length
  · have hg : rs.getD i ⟨0, [], 0⟩ = rs[i] := by simp [List.getD, hi]
    rw [hg]
    have key : ∀ j, 0 ≤ rs[i].args.getD j 0 ∧ rs[i].args.getD j 0 < 8 := fun j => by
      by_cases hj : j < rs[i].args.length
      · rw [show rs[i].args.getD j 0 = rs[i].args[j] by simp [List.getD, hj]]
        exact h.ar _ (List.getElem_mem hi) _ (List.getElem_mem hj)
      · rw [show rs[i].args.getD j 0 = 0 by simp [List.getD, show rs[i].args.length ≤ j by omega]]; decide
    exact ⟨key 0, key 1⟩
  · rw [show rs.getD i ⟨0, [], 0⟩ = ⟨0, [], 0⟩ by simp [List.getD, show rs.length ≤ i by omega]]
    decide
theorem pcD_digs {r a b s t : Int} (ha : 0 ≤ a ∧ a < 16) (hb : 0 ≤ b ∧ b < 16) (hs : 0 ≤ s ∧ s < 16) (ht : 0 ≤ t ∧ t < 16) : pcD r a b s t / 65536 = r ∧ pcD r a b s t / 256 % 16 = b ∧ pcD r a b s t % 16 = t := by
  unfold pcD
  refine ⟨by omega, by omega, by omega⟩
theorem PI.len {rs : List Rl} {e : Dt} {D : Int → Int → Prop} (hr : RsOk rs e D) {come had : KVs} {ps : List (Rl × Value)} {out : List Rl} (h : PI rs e D come had ps out) : had.length ≤ 51200 := by
  have hnd := h.ha.nd
  have hl : ((had.map (·.1)).map fun x => x / 65536 * 100 + x / 256 % 16 * 10 + x % 16).length = had.length := by simp
  rw [← hl]
  refine Nat.le_trans (nodup_range (n := rs.length * 100) ?_ fun y hy => ?_) (by have := hr.ul; omega)
  · rw [List.nodup_iff_pairwise_ne, List.pairwise_map]
    refine (List.nodup_iff_pairwise_ne.1 hnd).imp_of_mem ?_
    intro x y hx hy hxy he
    obtain ⟨i, b, t, _, hb, ht, rfl⟩ := h.hk x hx
    obtain ⟨i2, b2, t2, _, hb2, ht2, rfl⟩ := h.hk y hy
    obtain ⟨f1, f2⟩ := fst_ok hr i
    obtain ⟨g1, g2⟩ := fst_ok hr i2
    obtain ⟨p1, p2, p3⟩ := pcD_digs (r := i) (a := fstA rs i) (b := b) (s := sndA rs i) (t := t) (by omega) (by omega) (by omega) (by omega)
    obtain ⟨q1, q2, q3⟩ := pcD_digs (r := i2) (a := fstA rs i2) (b := b2) (s := sndA rs i2) (t := t2) (by omega) (by omega) (by omega) (by omega)
    rw [p1, p2, p3, q1, q2, q3] at he
    have e1 : i = i2 := by omega
    subst e1
    have e2 : b = b2 := by omega
    have e3 : t = t2 := by omega
    subst e2 e3
    exact hxy rfl
  · obtain ⟨x, hx, rfl⟩ := List.mem_map.1 hy
    obtain ⟨i, b, t, hi, hb, ht, rfl⟩ := h.hk x hx
    obtain ⟨f1, f2⟩ := fst_ok hr i
    obtain ⟨p1, p2, p3⟩ := pcD_digs (r := i) (a := fstA rs i) (b := b) (s := sndA rs i) (t := t) (by omega) (by omega) (by omega) (by omega)
    rw [p1, p2, p3]
    have : ((rs.length * 100 : Nat) : Int) = (rs.length : Int) * 100 := by omega
    omega
theorem PI.row {rs : List Rl} {e : Dt} {D : Int → Int → Prop} {come had : KVs} {ps : List (Rl × Value)} {out : List Rl} (h : PI rs e D come had ps out) (hn : e.acc.length ≤ 8) (q : Int) : (ofQ ps q).length ≤ 8 :=
  Nat.le_trans (nodup_range (h.nd q) fun x hx => (h.of q x hx).2.1) hn
end Pal
namespace Pal
open Go Go.Proofs Go.Proofs.X
def dgA (xs : List Int) (j k : Nat) : Int := if j < k then xs.getD j 0 else 0
def dgB (xs : List Int) (j k : Nat) : Int := if j < k then xs.getD j 0 + 1 else 0
def dC (i : Nat) (ax ls : List Int) (k : Nat) : Array Value := #[.int .i64 (i : Int), .int .i64 (dgA ax 0 k), .int .i64 (dgB ls 0 k), .int .i64 (dgA ax 1 k), .int .i64 (dgB ls 1 k)]
def kcode (i : Nat) (ax ls : List Int) : Int := pcD i (dgA ax 0 ls.length) (dgB ls 0 ls.length) (dgA ax 1 ls.length) (dgB ls 1 ls.length)
theorem dC_put0 {i off : Nat} {ax ls : List Int} {v : Value} (ho : off = 1) (hv : v.cells.toList = [.int .i64 (ax.getD 0 0), .int .i64 (ls.getD 0 0 + 1)]) : putCells (dC i ax ls 0) off v.cells.toList = dC i ax ls 1 := by
  subst ho; rw [hv]; simp [putCells, putL, dC, dgA, dgB]
theorem dC_put1 {i off : Nat} {ax ls : List Int} {v : Value} (ho : off = 3) (hv : v.cells.toList = [.int .i64 (ax.getD 1 0), .int .i64 (ls.getD 1 0 + 1)]) : putCells (dC i ax ls 1) off v.cells.toList = dC i ax ls 2 := by
  subst ho; rw [hv]; simp [putCells, putL, dC, dgA, dgB]
theorem dg_ok {ax ls : List Int} (ha : ∀ x ∈ ax, 0 ≤ x ∧ x < 8) (hl : ∀ x ∈ ls, 0 ≤ x ∧ x < 8) (j k : Nat) : (0 ≤ dgA ax j k ∧ dgA ax j k < 8) ∧ (0 ≤ dgB ls j k ∧ dgB ls j k < 10) := by
  have key : ∀ xs : List Int, (∀ x ∈ xs, 0 ≤ x ∧ x < 8) → 0 ≤ xs.getD j 0 ∧ xs.getD j 0 < 8 := fun xs h => by
    by_cases hj : j < xs.length
    · rw [show xs.getD j 0 = xs[j] by simp [List.getD, hj]]; exact h _ (List.getElem_mem hj)
    · rw [show xs.getD j 0 = 0 by simp [List.getD, show xs.length ≤ j by omega]]; decide
  have h1 := key ax ha
  have h2 := key ls hl
  unfold dgA dgB
  split <;> refine ⟨⟨by omega, by omega⟩, by omega, by omega⟩
theorem dC_key {i : Nat} {ax ls : List Int} (ha : ∀ x ∈ ax, 0 ≤ x ∧ x < 8) (hl : ∀ x ∈ ls, 0 ≤ x ∧ x < 8) : Value.agg (dC i ax ls ls.length) = keD (kcode i ax ls) := by
  obtain ⟨h1, h2⟩ := dg_ok ha hl 0 ls.length
  obtain ⟨h3, h4⟩ := dg_ok ha hl 1 ls.length
  unfold kcode
  rw [keD_five (by omega) (by omega) (by omega) (by omega)]
  rfl
theorem kcode_good {i : Nat} {ax ls : List Int} (hi : i < 512) (ha : ∀ x ∈ ax, 0 ≤ x ∧ x < 8) (hl : ∀ x ∈ ls, 0 ≤ x ∧ x < 8) : GD (kcode i ax ls) := by
  obtain ⟨h1, h2⟩ := dg_ok ha hl 0 ls.length
  obtain ⟨h3, h4⟩ := dg_ok ha hl 1 ls.length
  exact pcD_ok (by omega) (by omega) (by omega) (by omega) (by omega)
def codesL (ax ls : List Int) : List Int := List.zipWith pcB ax ls
theorem pcodes_len {ax ls : List Int} (h : ls.length = ax.length) : (codesL ax ls).length = ax.length := by unfold codesL; rw [List.length_zipWith]; omega
theorem pcodes_get {ax ls : List Int} {k : Nat} (h : k < (codesL ax ls).length) (h1 : k < ax.length) (h2 : k < ls.length) : (codesL ax ls)[k] = pcB ax[k] ls[k] := by simp [codesL]
theorem pcB_div {p q : Int} (h : 0 ≤ q ∧ q < 16) : pcB p q / 16 = p ∧ pcB p q % 16 = q := by unfold pcB; refine ⟨by omega, by omega⟩
/-- A step is new. -/
theorem PI.had_new {rs : List Rl} {e : Dt} {D : Int → Int → Prop} {come had : KVs} {ps : List (Rl × Value)} {out : List Rl} (h : PI rs e D come had ps out) (hr : RsOk rs e D) (hok : DtOk e) (hn : e.acc.length ≤ 8) {i : Nat} (hi : i < rs.length) {l : List Int} (hl : l.length = rs[i].args.length)
    (hx : ∀ x ∈ l, 0 ≤ x ∧ x < (e.acc.length : Int)) (hD : ∀ j (h : j < l.length) (h2 : j < rs[i].args.length), D rs[i].args[j] l[j]) (hnew : lookI had (kcode i rs[i].args l) = none) :
    PI rs e D come (setI had (kcode i rs[i].args l) (.bool true)) ps (out ++ [⟨rs[i].sym, codesL rs[i].args l, pcB rs[i].to (atM e rs[i].sym l)⟩]) := by
  have har := hr.ar _ (List.getElem_mem hi)
  have hl8 : ∀ x ∈ l, 0 ≤ x ∧ x < 8 := fun x hm => by have := hx x hm; omega
  have hto := hr.to _ (List.getElem_mem hi)
  obtain ⟨s1, s2, s3⟩ := hr.sy _ (List.getElem_mem hi)
  have hat := (hok.at_ok (s := rs[i].sym) (l := l) ⟨s1, s2⟩ (by rw [hl]; exact s3) hx).2.2
  have hgo := kcode_good (ax := rs[i].args) (ls := l) (i := i) (by have := hr.ul; omega) har hl8
  have hgi : rs.getD i ⟨0, [], 0⟩ = rs[i] := by simp [List.getD, hi]
  have hr2 : rs[i].args.length ≤ 2 := by
    have := dt_ranks hok rs[i].sym.toNat (by omega)
    omega
  have hA : dgA rs[i].args 0 l.length = fstA rs i ∧ dgA rs[i].args 1 l.length = sndA rs i := by
    unfold dgA fstA sndA
    rw [hgi, hl]
    constructor
    · split
      · rfl
      · rw [List.getD_eq_getElem?_getD, List.getElem?_eq_none (by omega)]; rfl
    · split
      · rfl
      · rw [List.getD_eq_getElem?_getD, List.getElem?_eq_none (by omega)]; rfl
  obtain ⟨_, g2⟩ := dg_ok har hl8 0 l.length
  obtain ⟨_, g4⟩ := dg_ok har hl8 1 l.length
  have hmem : ∀ p, p ∈ setI had (kcode i rs[i].args l) (.bool true) ↔ p = (kcode i rs[i].args l, .bool true) ∨ (p.1 ≠ kcode i rs[i].args l ∧ p ∈ had) := fun p => setI_mem h.ha.nd
  refine ⟨h.co, h.ha.set hgo _, h.cv, fun p hp => ?_, h.kn, h.of, h.nd, fun x hxm => ?_, ?_, fun s hs => ?_, fun i2 hi2 he2 hs2 => ?_⟩
  · rcases (hmem p).1 hp with rfl | ⟨_, hp⟩
    · rfl
    · exact h.hv p hp
  · obtain ⟨p, hp, rfl⟩ := List.mem_map.1 hxm
    rcases (hmem p).1 hp with rfl | ⟨_, hp⟩
    · exact ⟨i, _, _, hi, g2, g4, by unfold kcode; rw [hA.1, hA.2]⟩
    · exact h.hk _ (List.mem_map.2 ⟨p, hp, rfl⟩)
  · rw [setI_none hnew, List.length_append, List.length_append, h.ln]; rfl
  · rcases List.mem_append.1 hs with hs | hs
    · exact h.st s hs
    · rw [List.mem_singleton.1 hs]
      refine ⟨⟨s1, s2, by dsimp only; rw [pcodes_len hl]; exact s3⟩, fun x hxm => ?_, pcB_ok (by omega) (by omega), ?_, ?_, ?_⟩
      · obtain ⟨j, hj, rfl⟩ := List.getElem_of_mem hxm
        have hj1 : j < rs[i].args.length := by rwa [pcodes_len hl] at hj
        have hj2 : j < l.length := by omega
        have e1 := har _ (List.getElem_mem hj1)
        have e2 := hx _ (List.getElem_mem hj2)
        rw [pcodes_get hj hj1 hj2]
        obtain ⟨d1, d2⟩ := pcB_div (p := rs[i].args[j]) (q := l[j]) (by omega)
        rw [d1, d2]
        exact ⟨pcB_ok (by omega) (by omega), e2, hD j hj2 hj1⟩
      · rw [(pcB_div (by omega)).2]; exact hat
      · rw [(pcB_div (by omega)).1]; exact hto
      · obtain ⟨d1, d2⟩ := pcB_div (p := rs[i].to) (q := atM e rs[i].sym l) (by omega)
        dsimp only
        rw [d1, d2]
        exact hr.cl _ (List.getElem_mem hi) l hl hx hD
  · rw [lookI_setI h.ha.nd] at hs2
    by_cases ec : pcD (i2 : Int) 0 0 0 0 = kcode i rs[i].args l
    · have hii : i2 = i := by
        have d1 := (pcD_digs (r := (i2 : Int)) (a := 0) (b := 0) (s := 0) (t := 0) (by decide) (by decide) (by decide) (by decide)).1
        obtain ⟨a1, _⟩ := dg_ok har hl8 0 l.length
        obtain ⟨a3, _⟩ := dg_ok har hl8 1 l.length
        have d2 := (pcD_digs (r := (i : Int)) (a := dgA rs[i].args 0 l.length) (b := dgB l 0 l.length) (s := dgA rs[i].args 1 l.length) (t := dgB l 1 l.length) (by omega) (by omega) (by omega) (by omega)).1
        rw [ec] at d1
        unfold kcode at d1
        omega
      subst hii
      refine ⟨_, List.mem_append_right _ (List.mem_singleton.2 rfl), rfl, ?_⟩
      dsimp only
      exact List.eq_nil_of_length_eq_zero (by rw [pcodes_len hl, he2]; rfl)
    · rw [if_neg ec] at hs2
      obtain ⟨s, hs, g⟩ := h.p3 i2 hi2 he2 hs2
      exact ⟨s, List.mem_append_left _ hs, g⟩
/-- A pair is new. -/
theorem PI.come_new {rs : List Rl} {e : Dt} {D : Int → Int → Prop} {come had : KVs} {ps ps' : List (Rl × Value)} {out : List Rl} (h : PI rs e D come had ps out) (_hn : e.acc.length ≤ 8) {t x : Int} (ht : 0 ≤ t ∧ t < 8) (hx : 0 ≤ x ∧ x < (e.acc.length : Int)) (hDx : D t x)
    (hnew : lookI come (pcB t x) = none) (hk : ((ofK ps').map (·.1)).Nodup) (hq : ∀ p, ofQ ps' p = if p = t then ofQ ps p ++ [x] else ofQ ps p) : PI rs e D (setI come (pcB t x) (.bool true)) had ps' out := by
  have hx16 : 0 ≤ x ∧ x < 16 := by omega
  have hmono : ∀ c, (lookI come c).isSome = true → (lookI (setI come (pcB t x) (.bool true)) c).isSome = true := fun c hc => by
    rw [lookI_setI h.co.nd]; split
    · rfl
    · exact hc
  refine ⟨h.co.set (pcB_ok (by omega) hx16) _, h.ha, fun p hp => ?_, h.hv, hk, fun p q hpq => ?_, fun p => ?_, h.hk, h.ln, h.st, h.p3⟩
  · rcases (setI_mem h.co.nd).1 hp with rfl | ⟨_, hp⟩
    · rfl
    · exact h.cv p hp
  · rw [hq] at hpq
    have hold : q ∈ ofQ ps p → (0 ≤ p ∧ p < 8) ∧ (0 ≤ q ∧ q < (e.acc.length : Int)) ∧ D p q ∧ (lookI (setI come (pcB t x) (.bool true)) (pcB p q)).isSome = true := fun hm => by
      obtain ⟨a1, a2, a3, a4⟩ := h.of p q hm
      exact ⟨a1, a2, a3, hmono _ a4⟩
    by_cases ep : p = t
    · rw [if_pos ep] at hpq
      rcases List.mem_append.1 hpq with hm | hm
      · exact hold hm
      · rw [List.mem_singleton.1 hm, ep]
        exact ⟨ht, hx, hDx, by rw [lookI_setI h.co.nd, if_pos rfl]; rfl⟩
    · rw [if_neg ep] at hpq; exact hold hpq
  · rw [hq]
    split
    · rename_i ep
      subst ep
      rw [List.nodup_append]
      refine ⟨h.nd p, by simp, fun a ha b hb hab => ?_⟩
      rw [List.mem_singleton.1 hb] at hab
      subst hab
      have := (h.of p a ha).2.2.2
      rw [hnew] at this; cases this
    · exact h.nd p
theorem bool_look {kvs : KVs} (h : ∀ p ∈ kvs, p.2 = .bool true) (q : Int) : (lookI kvs q).getD (.bool false) = .bool (lookI kvs q).isSome := by
  cases hl : lookI kvs q with
  | none => rfl
  | some v => have := h _ (lookI_some hl); dsimp only at this; subst this; rfl
end Pal
namespace Pal
open Go Go.Proofs Go.Proofs.X
theorem look_mono {kvs : KVs} (hn : (kvs.map (·.1)).Nodup) {q : Int} {v : Value} {c : Int} (h : (lookI kvs c).isSome = true) : (lookI (setI kvs q v) c).isSome = true := by
  rw [lookI_setI hn]; split
  · rfl
  · exact h
theorem look_self {kvs : KVs} (hn : (kvs.map (·.1)).Nodup) {q : Int} {v : Value} : (lookI (setI kvs q v) q).isSome = true := by rw [lookI_setI hn, if_pos rfl]; rfl
theorem setI_len {kvs : KVs} {q : Int} {v : Value} (h : lookI kvs q = none) : (setI kvs q v).length = kvs.length + 1 := by rw [setI_none h, List.length_append]; rfl
theorem isSome_false {o : Option Value} (h : o.isSome = false) : o = none := by cases o with
  | none => rfl
  | some v => cases h
theorem lists_empty (f : Int → List Int) {xs : List Int} (h : xs = []) : listsP f xs = [[]] := by subst h; rfl
theorem kcode_empty (i : Nat) {ax l : List Int} (h : ax = []) (h2 : l.length = ax.length) : kcode i ax l = pcD i 0 0 0 0 := by
  subst h
  have : l = [] := List.eq_nil_of_length_eq_zero h2
  subst this; rfl
theorem repS_of {V : View} {sym to qq : Int} {ax l : List Int} {a : Option Addr} {cp k : Nat} {cells : List Value} (hl : l.length = ax.length) (hk : k = l.length) (hq : 0 ≤ qq ∧ qq < 16) (hs : i64ok sym) (hS : SlAt V (.slice a k cp) k cells) (hL : RepL RPb 2 (codesL ax l) cells) : RepS V ⟨sym, codesL ax l, pcB to qq⟩ [.int .i64 sym, .slice a k cp, .int .i64 to, .int .i64 qq] := by
  subst hk
  obtain ⟨d1, d2⟩ := pcB_div (p := to) (q := qq) hq
  refine ⟨a, cp, cells, ?_, ?_, hL, hs⟩
  · dsimp only; rw [d1, d2, pcodes_len hl, hl]
  · dsimp only; rw [pcodes_len hl, ← hl]; exact hS
theorem rpb_of {ax l : List Int} {k : Nat} (h : k < (codesL ax l).length) (h1 : k < ax.length) (h2 : k < l.length) (hq : 0 ≤ l[k] ∧ l[k] < 16) : RPb (codesL ax l)[k] [.int .i64 ax[k], .int .i64 l[k]] := by
  obtain ⟨d1, d2⟩ := pcB_div (p := ax[k]) (q := l[k]) hq
  unfold RPb
  rw [pcodes_get h h1 h2, d1, d2]
end Pal

/-
  Finiteness: states without predecessors are taken away; a rank of states. Own work. No statement of the seat is proved here.
-/
namespace Pal
open Go Go.Proofs Go.Proofs.X
def ledG (rs : List Rl) (m : List Bool) (s : Int) : Bool := rs.any fun r => decide (r.to = s) && r.args.any fun q => !onL m q
def goneS (rs : List Rl) (m : List Bool) (s : Nat) : List Bool := m.set s (onL m (s : Int) || !ledG rs m (s : Int))
def gAt (rs : List Rl) (m : List Bool) (k : Nat) : List Bool := (List.range k).foldl (goneS rs) m
def gN (rs : List Rl) (n : Nat) : Nat → List Bool
  | 0 => noneL n
  | k + 1 => gAt rs (gN rs n k) n
def finM (a : Au) : Bool := !decide (false ∈ gN a.rules a.states.toNat a.states.toNat)
theorem gAt_succ (rs : List Rl) (m : List Bool) (k : Nat) : gAt rs m (k + 1) = goneS rs (gAt rs m k) k := by unfold gAt; rw [List.range_succ, List.foldl_append]; rfl
theorem gAt_len (rs : List Rl) (m : List Bool) : ∀ k, (gAt rs m k).length = m.length
  | 0 => rfl
  | k + 1 => by rw [gAt_succ, goneS, List.length_set, gAt_len rs m k]
theorem gN_len (rs : List Rl) (n : Nat) : ∀ k, (gN rs n k).length = n
  | 0 => List.length_replicate ..
  | k + 1 => by rw [gN, gAt_len, gN_len rs n k]
theorem onL_set {m : List Bool} {s : Nat} (hs : s < m.length) (v : Bool) (q : Int) : onL (m.set s v) q = if q.toNat = s then v else onL m q := by
  unfold onL
  rw [List.getD_eq_getElem?_getD, List.getElem?_set]
  by_cases e : s = q.toNat
  · rw [if_pos e, if_pos e.symm, if_pos (by omega)]; rfl
  · rw [if_neg e, if_neg (fun h => e h.symm), List.getD_eq_getElem?_getD]
def Acyc (rs : List Rl) : Prop := ∃ rank : Nat → Nat, ∀ r ∈ rs, ∀ q ∈ r.args, rank q.toNat < rank r.to.toNat
def GInv (rs : List Rl) (m : List Bool) : Prop := ∃ rank : Nat → Nat, ∀ r ∈ rs, onL m r.to = true → ∀ q ∈ r.args, onL m q = true ∧ rank q.toNat < rank r.to.toNat
theorem ledG_no {rs : List Rl} {m : List Bool} {s : Int} (h : ledG rs m s = false) {r : Rl} (hr : r ∈ rs) (ht : r.to = s) {q : Int} (hq : q ∈ r.args) : onL m q = true := by
  cases ho : onL m q with
  | true => rfl
  | false =>
    have : ledG rs m s = true := List.any_eq_true.2 ⟨r, hr, by rw [decide_eq_true ht, Bool.true_and]; exact List.any_eq_true.2 ⟨q, hq, by rw [ho]; rfl⟩⟩
    rw [h] at this; cases this
theorem rank_bound (rs : List Rl) (rank : Nat → Nat) : ∃ B, ∀ r ∈ rs, ∀ q ∈ r.args, rank q.toNat < B := by
  refine ⟨((rs.flatMap fun r => r.args).map fun q => rank q.toNat).sum + 1, fun r hr q hq => ?_⟩
  have hm : q ∈ rs.flatMap fun r => r.args := List.mem_flatMap.2 ⟨r, hr, hq⟩
  have key : ∀ (l : List Int), q ∈ l → rank q.toNat ≤ (l.map fun q => rank q.toNat).sum := by
    intro l
    induction l with
    | nil => intro h; cases h
    | cons x l ih =>
      intro h
      rw [List.map_cons, List.sum_cons]
      rcases List.mem_cons.1 h with rfl | h
      · omega
      · have := ih h; omega
  have := key _ hm
  omega
theorem GInv.step {rs : List Rl} {m : List Bool} (h : GInv rs m) (hto : ∀ r ∈ rs, 0 ≤ r.to) {s : Nat} (hs : s < m.length) : GInv rs (goneS rs m s) := by
  obtain ⟨rank, hk⟩ := h
  by_cases hold : onL m (s : Int) = true ∨ ledG rs m (s : Int) = true
  · have he : ∀ q, onL (goneS rs m s) q = onL m q := fun q => by
      unfold goneS
      rw [onL_set hs]
      split
      · rename_i e
        have e2 : onL m q = onL m (s : Int) := by unfold onL; rw [e]; simp
        rw [e2]
        rcases hold with h1 | h1
        · rw [h1]; rfl
        · rw [h1]; simp
      · rfl
    refine ⟨rank, fun r hr ho q hq => ?_⟩
    rw [he] at ho ⊢
    exact hk r hr ho q hq
  · obtain ⟨h1, h2⟩ := not_or.1 hold
    have h1 : onL m (s : Int) = false := by simpa using h1
    have h2 : ledG rs m (s : Int) = false := by simpa using h2
    obtain ⟨B, hB⟩ := rank_bound rs rank
    have he : ∀ q, onL (goneS rs m s) q = if q.toNat = s then true else onL m q := fun q => by
      unfold goneS
      rw [onL_set hs, h2]; simp
    have hns : ∀ q : Int, onL m q = true → q.toNat ≠ s := fun q hq e => by
      have e2 : onL m q = onL m (s : Int) := by unfold onL; rw [e]; simp
      rw [e2, h1] at hq; cases hq
    refine ⟨fun x => if x = s then B else rank x, fun r hr ho q hq => ?_⟩
    rw [he] at ho
    have hon : onL m q = true := by
      by_cases e : r.to.toNat = s
      · exact ledG_no h2 hr (by have := hto r hr; omega) hq
      · rw [if_neg e] at ho; exact (hk r hr ho q hq).1
    have hq' := hns q hon
    rw [he, if_neg hq']
    refine ⟨hon, ?_⟩
    dsimp only
    rw [if_neg hq']
    by_cases e : r.to.toNat = s
    · rw [if_pos e]; exact hB r hr q hq
    · rw [if_neg e]
      rw [if_neg e] at ho
      exact (hk r hr ho q hq).2
theorem GInv.at {rs : List Rl} (hto : ∀ r ∈ rs, 0 ≤ r.to) {m : List Bool} (h : GInv rs m) : ∀ k, k ≤ m.length → GInv rs (gAt rs m k)
  | 0, _ => h
  | k + 1, hk => by
    rw [gAt_succ]
    exact (GInv.at hto h k (by omega)).step hto (by rw [gAt_len]; omega)
theorem GInv.n {rs : List Rl} (hto : ∀ r ∈ rs, 0 ≤ r.to) (n : Nat) : ∀ k, GInv rs (gN rs n k)
  | 0 => ⟨fun _ => 0, fun r _ h => by
    have : onL (noneL n) r.to = false := by
      unfold onL noneL
      rw [List.getD_eq_getElem?_getD, List.getElem?_replicate]
      split <;> rfl
    rw [gN, this] at h; cases h⟩
  | k + 1 => by
    rw [gN]
    exact GInv.at hto (GInv.n hto n k) n (by rw [gN_len]; exact Nat.le_refl _)
end Pal

/-
  Cycles between states: the pairs that lead to one another, closed state by state. Own work. No statement of the seat is proved here.
-/
namespace Pal
open Go Go.Proofs Go.Proofs.X
theorem Acyc.congr {rs ts : List Rl} (h : ∀ r, r ∈ rs → r ∈ ts) (ha : Acyc ts) : Acyc rs := by
  obtain ⟨rank, hk⟩ := ha
  exact ⟨rank, fun r hr => hk r (h r hr)⟩
end Pal

/-
  The values of the small automata that the laws of chapter 36 run on at their start. Own work. No statement of the seat is proved here.
-/
namespace Pal
open Go Go.Proofs Go.Proofs.X
theorem leaf_le {rk : List Int} : ∀ {t : Tr}, Tr.nodesErr rk t = 0 → Tr.cmp (.node 0 []) t ≤ 0
  | .node s ts, h => by
    rw [Tr.nodesErr] at h
    have hs : 0 ≤ s := by
      by_cases e : s < 0 ∨ (rk.length : Int) ≤ s
      · rw [if_pos e] at h; cases h
      · omega
    rw [cmp_key]
    have e0 : Tr.key (.node 0 []) = [1, 0, 0] := rfl
    rw [e0, Tr.key, cmpL_cons, cmpL_cons, cmpL_cons]
    have hsz : (Tr.node s ts).size = 1 + Tr.sizes ts := rfl
    have hl := Tr.length_le_sizes ts
    unfold cmpI
    by_cases h1 : Tr.sizes ts = 0
    · have h2 : ts = [] := List.eq_nil_of_length_eq_zero (by omega)
      subst h2
      rw [hsz, h1]
      by_cases h3 : s = 0
      · subst h3; decide
      · rw [if_neg (by simp), if_pos (by rw [if_pos (by omega)]; decide), if_pos (by omega)]; decide
    · rw [if_pos (by rw [if_pos (by omega)]; decide), if_pos (by omega)]; decide
theorem known_okA : auErr knownA = 0 := by decide +kernel
theorem known_leaf {b : BT} {o : Option Tr} (hB : Best knownA.rules b) (hO : LeastOf b (fun q => q ∈ knownA.final) o) : o = some (.node 0 []) := by
  have hok := AuOk.of known_okA
  obtain ⟨w, hw, hle⟩ := best_le hok (by decide) hB (.node 0 []) 1 (by decide +kernel)
  have hv := (hB.inv 1 w hw).1.valid hok (fun r hr => hr)
  have he : w = .node 0 [] := Tr.cmp_eq (by
    have h1 := leaf_le hv
    rw [Tr.cmp_swap] at h1
    omega)
  subst he
  cases o with
  | none => rw [hO 1 (by decide)] at hw; cases hw
  | some t =>
    obtain ⟨⟨q, h1, h2⟩, _⟩ := hO
    have hq : q = 1 := by simpa [knownA] using h1
    subst hq
    rw [hw] at h2; exact h2.symm
theorem known_fin : finM (normA (trimA knownA)) = false := by decide +kernel
end Pal

/-
  Two deterministic automata: the pairs of states that are reached, and the least tree that tells them apart. Own work. No statement of the seat is proved here.
-/
namespace Pal
open Go Go.Proofs Go.Proofs.X
def eqErr (d e : Dt) : Int := if dtErr d ≠ 0 then dtErr d else if dtErr e ≠ 0 then dtErr e else if d.ranks ≠ e.ranks then 3 else 0
theorem stepAu_ok {e : Dt} (hok : DtOk e) {D : Int → Int → Prop} {out : List Rl} (hl : out.length ≤ 51200) (h : ∀ s ∈ out, StepOk e D s) : AuOk ⟨e.ranks, 256, out, []⟩ := by
  obtain ⟨⟨h1, h2⟩, h3⟩ := ranksErr_ok hok.rk
  refine ⟨⟨by dsimp only; omega, by dsimp only; omega⟩, fun s hs => h3 s hs, ⟨by dsimp only; omega, by dsimp only; omega⟩, by dsimp only; omega, fun r hr => ?_, fun q hq => by cases hq⟩
  obtain ⟨⟨a1, a2, a3⟩, b, c, _⟩ := h r hr
  refine ⟨a1, a2, a3, fun q hq => ?_, ?_⟩
  · have := (b q hq).1; unfold GB at this; dsimp only; omega
  · unfold GB at c; dsimp only; omega
theorem key_step {out : List Rl} {bt : BT} (hB : Best out bt) {q : Int} {t : Tr} (h : bt q = some t) : ∃ s ∈ out, s.to = q := by
  have hd := (hB.inv q t h).1
  cases hd with | mk hr _ _ _ _ => exact ⟨_, hr, rfl⟩
theorem BestM.of_key {H : View} {kvs : KVs} {bt : BT} (h : BestM H kvs bt) {q : Int} (hq : q ∈ kvs.map (·.1)) : ∃ t, bt q = some t := by
  cases hb : bt q with
  | some t => exact ⟨t, rfl⟩
  | none =>
    have := lookI_isSome.2 hq
    rw [h.no hb] at this; cases this
theorem best_fits {out : List Rl} {bt : BT} (hB : Best out bt) {rk : List Int} (hok : AuOk ⟨rk, 256, out, []⟩) {q : Int} {t : Tr} (h : bt q = some t) : t.size ≤ 4096 ∧ t.deep ≤ 256 := by
  refine ⟨(hB.inv q t h).2, ?_⟩
  refine hB.inv.deep (n := 256) (fun r hr => ?_) h
  have := (hok.ru r hr).2.2.2.2
  dsimp only at this
  omega
def DP (d : Dt) (D : Int → Int → Prop) (p q : Int) : Prop := (0 ≤ p ∧ p < (d.acc.length : Int)) ∧ D p q
theorem rs_of {d e : Dt} (hd : DtOk d) (hr : d.ranks = e.ranks) (hn : d.acc.length ≤ 8) (h8 : d.ranks.length ≤ 8) {D : Int → Int → Prop}
    (hcl : ∀ (s : Nat) (xs l : List Int), s < d.ranks.length → xs ∈ tups d.acc.length (d.ranks.getD s 0).toNat → l.length = xs.length → (∀ x ∈ l, 0 ≤ x ∧ x < (e.acc.length : Int)) → (∀ j (h : j < l.length) (h2 : j < xs.length), D xs[j] l[j]) → D (atM d (s : Int) xs) (atM e (s : Int) l)) :
    RsOk (rulesD d) e (DP d D) := by
  have hat : ∀ (s : Nat) (xs : List Int), s < d.ranks.length → xs ∈ tups d.acc.length (d.ranks.getD s 0).toNat → 0 ≤ atM d (s : Int) xs ∧ atM d (s : Int) xs < (d.acc.length : Int) := fun s xs hs hx =>
    (hd.at_ok (s := (s : Int)) (l := xs) ⟨by omega, by omega⟩ (at_len hd hs hx) (tups_item hx).2).2.2
  refine ⟨rulesD_max hd hn h8, fun r hm => ?_, fun r hm q hq => ?_, fun r hm => ?_, fun r hm l hl hx hD => ?_⟩
  all_goals obtain ⟨s, hs, e1, e2, e3⟩ := mem_rulesD.1 hm
  · rw [e1]
    refine ⟨by omega, by rw [← hr]; omega, ?_⟩
    rw [← hr]; exact at_len hd hs e2
  · have := (tups_item e2).2 q hq; omega
  · have := hat s r.args hs e2
    rw [e3]; omega
  · rw [e3, e1]
    refine ⟨hat s r.args hs e2, hcl s r.args l hs e2 hl hx fun j h h2 => (hD j h h2).2⟩
/-- What the search for a difference answers. -/
def DiffAt (H : View) (rs : List Rl) (e : Dt) (D : Int → Int → Prop) (F : Int → Bool) (B : Bool) (ds : List Value) : Prop :=
  ∃ (out : List Rl) (o : Option Tr) (bt : BT), RepT H (o.getD (.node 0 [])) ds ∧ (∀ s ∈ out, StepOk e D s) ∧ (∀ z (h : z < rs.length), rs[z].args = [] → ∃ s ∈ out, s.sym = rs[z].sym ∧ s.args = []) ∧ B = (!out.any fun s => F s.to) ∧ (B = true → o = none) ∧ (B = false → Best out bt ∧ LeastOf bt (fun q => F q = true) o ∧ AuOk ⟨e.ranks, 256, out, []⟩)
theorem DiffAt.mono {H H' : View} {rs : List Rl} {e : Dt} {D : Int → Int → Prop} {F : Int → Bool} {B : Bool} {ds : List Value} (h : DiffAt H rs e D F B ds) (hle : VLe H H') : DiffAt H' rs e D F B ds := by
  obtain ⟨out, o, bt, h1, h2⟩ := h
  exact ⟨out, o, bt, h1.mono hle, h2⟩
theorem DiffAt.shape {H : View} {rs : List Rl} {e : Dt} {D : Int → Int → Prop} {F : Int → Bool} {B : Bool} {ds : List Value} (h : DiffAt H rs e D F B ds) : ∃ s a k c, ds = [.int .i64 s, .slice a k c] := by
  obtain ⟨out, o, bt, h1, _⟩ := h
  exact h1.shape
end Pal

/-
  An automaton against its copy, and against its complement. Own work. No statement of the seat is proved here.
-/
namespace Pal
open Go Go.Proofs Go.Proofs.X
theorem same_closed {d e : Dt} (h : atM e = atM d) : ∀ (s : Nat) (xs l : List Int), s < d.ranks.length → xs ∈ tups d.acc.length (d.ranks.getD s 0).toNat → l.length = xs.length → (∀ x ∈ l, 0 ≤ x ∧ x < (e.acc.length : Int)) → (∀ j (h : j < l.length) (h2 : j < xs.length), xs[j] = l[j]) → atM d (s : Int) xs = atM e (s : Int) l := by
  intro s xs l _ _ hl _ hx
  have : xs = l := List.ext_getElem hl.symm fun j h1 h2 => hx j h2 h1
  rw [this, h]
theorem self_same {H : View} {rs : List Rl} {d : Dt} {B : Bool} {ds : List Value} (h : DiffAt H rs d (DP d fun p q => p = q) (fun q => d.acc.getD (q / 16).toNat false != d.acc.getD (q % 16).toNat false) B ds) : B = true := by
  obtain ⟨out, o, bt, _, h2, _, h4, _, _⟩ := h
  rw [h4]
  have : (out.any fun s => d.acc.getD (s.to / 16).toNat false != d.acc.getD (s.to % 16).toNat false) = false := by
    rw [List.any_eq_false]
    intro s hs
    have := (h2 s hs).2.2.2.2.2
    rw [show s.to / 16 = s.to % 16 from this.2]; simp
  rw [this]; rfl
theorem self_cmpl {H : View} {d : Dt} {B : Bool} {ds : List Value} (h : DiffAt H (rulesD d) (cmplD d) (DP d fun p q => p = q) (fun q => d.acc.getD (q / 16).toNat false != (cmplD d).acc.getD (q % 16).toNat false) B ds) {s0 : Nat} (hs0 : s0 < d.ranks.length) (h0 : d.ranks.getD s0 0 = 0) (hf : ∀ j, j < s0 → d.ranks.getD j 0 ≠ 0) :
    B = false ∧ RepT H (.node (s0 : Int) []) ds := by
  obtain ⟨out, o, bt, h1, h2, h3, h4, _, h6⟩ := h
  have hF : ∀ s ∈ out, (d.acc.getD (s.to / 16).toNat false != (cmplD d).acc.getD (s.to % 16).toNat false) = true := by
    intro s hs
    obtain ⟨⟨g1, g2⟩, g3⟩ := (h2 s hs).2.2.2.2.2
    have e : (cmplD d).acc.getD (s.to % 16).toNat false = !d.acc.getD (s.to / 16).toNat false := by
      rw [← g3]
      have : (s.to / 16).toNat < d.acc.length := by omega
      simp [cmplD, List.getD, this]
    rw [e]
    cases d.acc.getD (s.to / 16).toNat false <;> rfl
  have hr : (⟨(s0 : Int), [], atM d (s0 : Int) []⟩ : Rl) ∈ rulesD d := mem_rulesD.2 ⟨s0, hs0, rfl, by rw [h0]; simp [tups], rfl⟩
  obtain ⟨z, hz, ez⟩ := List.getElem_of_mem hr
  obtain ⟨s, hs, e1, e2⟩ := h3 z hz (by rw [ez])
  rw [ez] at e1
  have hany : (out.any fun s => d.acc.getD (s.to / 16).toNat false != (cmplD d).acc.getD (s.to % 16).toNat false) = true := List.any_eq_true.2 ⟨s, hs, hF s hs⟩
  have hB : B = false := by rw [h4, hany]; rfl
  refine ⟨hB, ?_⟩
  obtain ⟨hBe, hL, _⟩ := h6 hB
  have hn := hBe.no s hs
  unfold newB candB at hn
  rw [e2] at hn
  simp only [argsB, Option.map_some] at hn
  have hsz : (Tr.node s.sym []).size ≤ 4096 := by simp [Tr.size, Tr.sizes]
  obtain ⟨w, hw, hle⟩ : ∃ w, bt s.to = some w ∧ Tr.cmp w (.node s.sym []) ≤ 0 := by
    cases hb : bt s.to with
    | none => rw [hb] at hn; rw [if_pos ⟨hsz, rfl⟩] at hn; cases hn
    | some w =>
      rw [hb] at hn
      have hcm : ¬ Tr.cmp (.node s.sym []) w < 0 := fun hlt => by
        rw [if_pos ⟨hsz, decide_eq_true hlt⟩] at hn; cases hn
      refine ⟨w, rfl, ?_⟩
      rw [Tr.cmp_swap]; omega
  cases o with
  | none => rw [hL s.to (hF s hs)] at hw; cases hw
  | some t =>
    have hle2 := Tr.cmp_le_trans (hL.2 s.to w (hF s hs) hw) hle
    obtain ⟨⟨q, _, hq⟩, _⟩ := hL
    have hd := (hBe.inv q t hq).1
    cases hd with
    | @mk _ s' _ ts qs hr' _ hl _ _ =>
      have hts : ts = [] := by
        cases ts with
        | nil => rfl
        | cons x xs =>
          exfalso
          have hx := Tr.size_pos x
          have := Tr.cmp_size_lt (t := .node s.sym []) (u := .node s' (x :: xs)) (by simp only [Tr.size, Tr.sizes]; omega)
          rw [Tr.cmp_swap] at this; omega
      subst hts
      have hqs : qs = [] := List.eq_nil_of_length_eq_zero (by simpa using hl.symm)
      subst hqs
      have hle3 : s' ≤ (s0 : Int) := by
        rw [show s.sym = (s0 : Int) from e1] at hle2
        by_cases hlt : (s0 : Int) < s'
        · exfalso
          have : Tr.cmp (.node s' []) (.node (s0 : Int) []) = 1 := by
            have c1 : cmpI s' (s0 : Int) = 1 := by
              unfold cmpI
              rw [if_neg (show ¬ s' < (s0 : Int) by omega), if_pos hlt]
            simp [Tr.cmp, Tr.size, Tr.sizes, cmpI_self, c1]
          omega
        · omega
      obtain ⟨⟨a1, a2, a3⟩, _⟩ := h2 _ hr'
      dsimp only at a1 a2 a3
      have a4 : d.ranks.getD s'.toNat 0 = 0 := by
        have : (cmplD d).ranks = d.ranks := rfl
        rw [this] at a3; simpa using a3.symm
      have a5 : ¬ s'.toNat < s0 := fun h => hf _ h a4
      have : s' = (s0 : Int) := by omega
      subst this
      exact h1
theorem rank0 {rk : List Int} (h : ranksErr rk = 0) : (0 : Int) ∈ rk := by
  unfold ranksErr at h
  split at h
  · cases h
  · split at h
    · cases h
    · split at h
      · cases h
      · rename_i h1; exact Decidable.not_not.1 h1
end Pal
namespace Pal
theorem rank0_at {rk : List Int} (h : ranksErr rk = 0) : ∃ j, j < rk.length ∧ rk.getD j 0 = 0 := by
  obtain ⟨j, h1, h2⟩ := List.getElem_of_mem (rank0 h)
  exact ⟨j, h1, by simp [List.getD, h1, h2]⟩
theorem eqErr_zero {d e : Dt} (h1 : dtErr d = 0) (h2 : dtErr e = 0) (h3 : d.ranks = e.ranks) : eqErr d e = 0 := by
  unfold eqErr
  rw [if_neg (not_not_intro h1), if_neg (not_not_intro h2), if_neg (not_not_intro h3)]
end Pal

/-
  A region that draws its order and in which nothing acts: what reads may read the blocks that were made in it. Own work. No statement of the seat is proved here.
-/
namespace Pal
open Go
section
variable {P : Program} {ops : Array Oper} {H H' : View} {hl hl' : HL} {l l' : KL}
theorem ValOk.sub {op : Op} {ty : TypeId} {v : Value} (hs : List.Sublist hl hl') (hv : ValOk P l H hl op ty v) : ValOk P l H hl' op ty v := fun e w hk hh => hv e w hk (hh.sublist hs)
theorem ValOk.permR {op : Op} {ty : TypeId} {v : Value} (hp : hl.Perm hl') (hv : ValOk P l H hl op ty v) : ValOk P l H hl' op ty v := fun e w hk hh => hv e w hk (hh.perm hp.symm)
def XR (P : Program) (n : Nat) (ops : Array Oper) (o : Oper) (F : ST) : ST := fun l hl H =>
  (wl ops l o = some false ∧ F (insl o.dst undef l) hl H) ∨
  (wl ops l o = some true ∧ ((cls o.op = 0 ∧ ∃ v, ValOk P l H hl o.op o.type v ∧ F (insl o.dst v l) hl H) ∨ (cls o.op = 1 ∧ ∃ mk obj, AllocOk P l o.op o.type mk obj ∧ ∀ b, F (insl o.dst (mk b) l) (blk b obj :: hl) H)))
theorem XR.mono {n : Nat} {o : Oper} {F F' : ST} (hF : ∀ l hl H, F l hl H → F' l hl H) (h : XR P n ops o F l hl H) : XR P n ops o F' l hl H := by
  rcases h with ⟨h1, h2⟩ | ⟨h1, ⟨h2, v, h3, h4⟩ | ⟨h2, mk, obj, h3, h4⟩⟩
  · exact .inl ⟨h1, hF _ _ _ h2⟩
  · exact .inr ⟨h1, .inl ⟨h2, v, h3, hF _ _ _ h4⟩⟩
  · exact .inr ⟨h1, .inr ⟨h2, mk, obj, h3, fun b => hF _ _ _ (h4 b)⟩⟩
theorem XR.inv {n : Nat} {o : Oper} {F : ST} (hs : noSel o.op = true) (hF : Inv F) : Inv (XR P n ops o F) := by
  constructor
  · intro l l' hl H he h
    rcases h with ⟨h1, h2⟩ | ⟨h1, ⟨h2, v, h3, h4⟩ | ⟨h2, mk, obj, h3, h4⟩⟩
    · exact .inl ⟨by rw [← wl_agree he.agree]; exact h1, hF.l (he.insl _ _) h2⟩
    · exact .inr ⟨by rw [← wl_agree he.agree]; exact h1, .inl ⟨h2, v, h3.agree (ops := ops) hs he.agree, hF.l (he.insl _ _) h4⟩⟩
    · exact .inr ⟨by rw [← wl_agree he.agree]; exact h1, .inr ⟨h2, mk, obj, h3.agree (ops := ops) hs he.agree, fun b => hF.l (he.insl _ _) (h4 b)⟩⟩
  · intro l hl hl' H hp h
    rcases h with ⟨h1, h2⟩ | ⟨h1, ⟨h2, v, h3, h4⟩ | ⟨h2, mk, obj, h3, h4⟩⟩
    · exact .inl ⟨h1, hF.p hp h2⟩
    · exact .inr ⟨h1, .inl ⟨h2, v, h3.permR hp, hF.p hp h4⟩⟩
    · exact .inr ⟨h1, .inr ⟨h2, mk, obj, h3, fun b => hF.p (hp.cons _) (h4 b)⟩⟩
theorem XR.swap {n : Nat} {y x : Oper} {F : ST} (hF : Inv F) (hsy : noSel y.op = true) (hsx : noSel x.op = true) (hap : y.apart ops x = true) (hy : cls y.op = 0 ∨ wl ops l y = some false)
    (h : XR P n ops y (XR P n ops x F) l hl H) : XR P n ops x (XR P n ops y F) l hl H := by
  obtain ⟨a1, a2, a3⟩ := Oper.apart_spec hap
  have agx : ∀ (v : Value) (l : KL), Agree ops x l (insl y.dst v l) := fun v l => agree_insl (fun k hk => a1 k hk) v l
  have agy : ∀ (v : Value) (l : KL), Agree ops y l (insl x.dst v l) := fun v l => agree_insl (fun k hk => a3 k hk) v l
  have sw : ∀ (u v : Value) (l : KL), LEq (insl x.dst v (insl y.dst u l)) (insl y.dst u (insl x.dst v l)) := fun u v l =>
    LEq.inslSwap (fun d hd he => a2 d he hd) v u l
  have body : ∀ (u : Value), (∀ (v : Value) (hl' : HL), List.Sublist hl hl' → F (insl x.dst v (insl y.dst u l)) hl' H → XR P n ops y F (insl x.dst v l) hl' H) → XR P n ops x F (insl y.dst u l) hl H → XR P n ops x (XR P n ops y F) l hl H := by
    intro u hb hx
    rcases hx with ⟨h1, h2⟩ | ⟨h1, ⟨h2, v, h3, h4⟩ | ⟨h2, mk, obj, h3, h4⟩⟩
    · exact .inl ⟨by rw [wl_agree (agx u l)]; exact h1, hb _ _ (List.Sublist.refl _) h2⟩
    · exact .inr ⟨by rw [wl_agree (agx u l)]; exact h1, .inl ⟨h2, v, h3.agree (ops := ops) hsx (agx u l).symm, hb _ _ (List.Sublist.refl _) h4⟩⟩
    · exact .inr ⟨by rw [wl_agree (agx u l)]; exact h1, .inr ⟨h2, mk, obj, h3.agree (ops := ops) hsx (agx u l).symm, fun b => hb _ _ (List.sublist_cons_self _ _) (h4 b)⟩⟩
  rcases h with ⟨h1, h2⟩ | ⟨h1, h2⟩
  · exact body undef (fun v hl' _ hf => .inl ⟨by rw [← wl_agree (agy v l)]; exact h1, hF.l (sw undef v l) hf⟩) h2
  · have hy0 : cls y.op = 0 := hy.resolve_right (fun e => by rw [h1] at e; cases e)
    rcases h2 with ⟨_, u, h3, h4⟩ | ⟨h2, _⟩
    · exact body u (fun v hl' hs hf => .inr ⟨by rw [← wl_agree (agy v l)]; exact h1, .inl ⟨hy0, u, (h3.agree (ops := ops) hsy (agy v l)).sub hs, hF.l (sw u v l) hf⟩⟩) h4
    · omega
def KR (P : Program) (n : Nat) (ops : Array Oper) (T : ST) : List Nat → ST
  | [] => T
  | i :: R => fun l hl H => ∃ o, ops[i]? = some o ∧ XR P n ops o (KR P n ops T R) l hl H
theorem KR.inv {n : Nat} {T : ST} (hs : selOk ops) (hT : Inv T) : ∀ R, Inv (KR P n ops T R)
  | [] => hT
  | i :: R => ⟨fun he ⟨o, h1, h2⟩ => ⟨o, h1, (XR.inv (hs i o h1) (KR.inv hs hT R)).l he h2⟩, fun hp ⟨o, h1, h2⟩ => ⟨o, h1, (XR.inv (hs i o h1) (KR.inv hs hT R)).p hp h2⟩⟩
theorem KR.ahead {n : Nat} {T : ST} {x : Nat} {ox : Oper} (hs : selOk ops) (hx : ops[x]? = some ox) (hc : cls ox.op = 1) :
    ∀ (pre post : List Nat) (l : KL) (hl : HL) (H : View), (∀ y ∈ pre, freeI ops y x) → KR P n ops T (pre ++ x :: post) l hl H →
      wl ops l ox = some false ∨ (wl ops l ox = some true ∧ ∃ mk obj, AllocOk P l ox.op ox.type mk obj)
  | [], post, l, hl, H, _, h => by
    obtain ⟨o, h1, h2⟩ := h
    rw [hx] at h1; cases h1
    rcases h2 with ⟨h1, _⟩ | ⟨h1, ⟨h2, _⟩ | ⟨_, mk, obj, h3, _⟩⟩
    · exact .inl h1
    · omega
    · exact .inr ⟨h1, mk, obj, h3⟩
  | y :: pre, post, l, hl, H, hf, h => by
    obtain ⟨oy, h1, h2⟩ := h
    have hap := (hf y (by simp) oy ox h1 hx).1
    obtain ⟨a1, a2, a3⟩ := Oper.apart_spec hap
    have ag : ∀ (v : Value), Agree ops ox l (insl oy.dst v l) := fun v => agree_insl (fun k hk => a1 k hk) v l
    have back : ∀ (v : Value), (wl ops (insl oy.dst v l) ox = some false ∨ (wl ops (insl oy.dst v l) ox = some true ∧ ∃ mk obj, AllocOk P (insl oy.dst v l) ox.op ox.type mk obj)) →
        wl ops l ox = some false ∨ (wl ops l ox = some true ∧ ∃ mk obj, AllocOk P l ox.op ox.type mk obj) := by
      intro v hb
      rw [wl_agree (ag v)]
      rcases hb with hb | ⟨hb, mk, obj, h3⟩
      · exact .inl hb
      · exact .inr ⟨hb, mk, obj, h3.agree (ops := ops) (hs x ox hx) (ag v).symm⟩
    have ih := fun l hl H (hk : KR P n ops T (pre ++ x :: post) l hl H) => KR.ahead hs hx hc pre post l hl H (fun z hz => hf z (List.mem_cons_of_mem _ hz)) hk
    rcases h2 with ⟨_, h2⟩ | ⟨_, ⟨_, v, _, h4⟩ | ⟨_, mk, obj, _, h4⟩⟩
    · exact back _ (ih _ _ _ h2)
    · exact back _ (ih _ _ _ h4)
    · exact back _ (ih _ _ _ (h4 0))
theorem KR.outA {n : Nat} {T : ST} {x : Nat} {ox : Oper} {v : Value} {extra : HL} (hs : selOk ops) (hT : Inv T) (hx : ops[x]? = some ox) :
    ∀ (pre post : List Nat) (l : KL) (hl : HL) (H : View), (∀ y ∈ pre, ∀ oy, ops[y]? = some oy → oy.apart ops ox = true) →
      (∀ (l' : KL) (hl' : HL) (H' : View) (F : ST), Agree ops ox l l' → XR P n ops ox F l' hl' H' → F (insl ox.dst v l') (extra ++ hl') H') →
      KR P n ops T (pre ++ x :: post) l hl H → KR P n ops T (pre ++ post) (insl ox.dst v l) (extra ++ hl) H
  | [], post, l, hl, H, _, hX, h => by
    obtain ⟨o, h1, h2⟩ := h
    rw [hx] at h1; cases h1
    exact hX l hl H _ (fun _ _ => rfl) h2
  | y :: pre, post, l, hl, H, hf, hX, h => by
    obtain ⟨oy, h1, h2⟩ := h
    obtain ⟨a1, a2, a3⟩ := Oper.apart_spec (hf y (by simp) oy h1)
    have agx : ∀ (u : Value), Agree ops ox l (insl oy.dst u l) := fun u => agree_insl (fun k hk => a1 k hk) u l
    have agy : Agree ops oy l (insl ox.dst v l) := agree_insl (fun k hk => a3 k hk) v l
    have sw : ∀ (u : Value), LEq (insl ox.dst v (insl oy.dst u l)) (insl oy.dst u (insl ox.dst v l)) := fun u => LEq.inslSwap (fun d hd he => a2 d he hd) v u l
    have hinv := KR.inv (P := P) (n := n) hs hT (pre ++ post)
    have ih := fun (u : Value) (hl' : HL) (H' : View) (hk : KR P n ops T (pre ++ x :: post) (insl oy.dst u l) hl' H') =>
      KR.outA hs hT hx pre post (insl oy.dst u l) hl' H' (fun z hz => hf z (List.mem_cons_of_mem _ hz))
        (fun l' hl' H' F ha => hX l' hl' H' F ((agx u).trans ha)) hk
    refine ⟨oy, h1, ?_⟩
    rcases h2 with ⟨h1', h2⟩ | ⟨h1', ⟨h2, u, h3, h4⟩ | ⟨h2, mk, obj, h3, h4⟩⟩
    · exact .inl ⟨by rw [← wl_agree agy]; exact h1', hinv.l (sw undef) (ih _ _ _ h2)⟩
    · exact .inr ⟨by rw [← wl_agree agy]; exact h1', .inl ⟨h2, u, (h3.agree (ops := ops) (hs y oy h1) agy).sub (List.sublist_append_right _ _), hinv.l (sw u) (ih _ _ _ h4)⟩⟩
    · refine .inr ⟨by rw [← wl_agree agy]; exact h1', .inr ⟨h2, mk, obj, h3.agree (ops := ops) (hs y oy h1) agy, fun b => ?_⟩⟩
      refine hinv.p ?_ (hinv.l (sw (mk b)) (ih _ _ _ (h4 b)))
      exact List.perm_middle
theorem KR.outC {n : Nat} {T : ST} {x : Nat} {ox : Oper} (hs : selOk ops) (hT : Inv T) (hx : ops[x]? = some ox) :
    ∀ (pre post : List Nat) (l : KL) (hl : HL) (H : View), (∀ y ∈ pre, ∀ oy, ops[y]? = some oy → oy.apart ops ox = true ∧ cls oy.op = 0) →
      KR P n ops T (pre ++ x :: post) l hl H → KR P n ops T (x :: (pre ++ post)) l hl H
  | [], post, l, hl, H, _, h => h
  | y :: pre, post, l, hl, H, hf, h => by
    obtain ⟨oy, h1, h2⟩ := h
    obtain ⟨hap, hc⟩ := hf y (by simp) oy h1
    have ih := fun l hl H (hk : KR P n ops T (pre ++ x :: post) l hl H) => KR.outC hs hT hx pre post l hl H (fun z hz => hf z (List.mem_cons_of_mem _ hz)) hk
    have h3 : XR P n ops oy (XR P n ops ox (KR P n ops T (pre ++ post))) l hl H := by
      refine XR.mono (fun l hl H hk => ?_) h2
      obtain ⟨o, h4, h5⟩ := ih l hl H hk
      rw [hx] at h4; cases h4
      exact h5
    refine ⟨ox, hx, ?_⟩
    have h6 := XR.swap (KR.inv hs hT (pre ++ post)) (hs y oy h1) (hs x ox hx) hap (.inl hc) h3
    exact XR.mono (fun l hl H hk => ⟨oy, h1, hk⟩) h6
end
section
variable {P : Program} {n : Nat} {c : Cx} {Q : Exit → Act → World → Prop} {l : KL} {hl : HL} {H : View} {ops : List Oper}
theorem XR.run {o : Oper} {F : ST} {ρ : Env} {w : World} {i : Nat} {K : Act → World → Prop} (hi : ops.toArray[i]? = some o) (hd : ∀ d, o.dst = some d → Nat.blt d n = true)
    (hm : Mt n ρ l) (ho : Ok c w H hl) (h : XR P n ops.toArray o F l hl H)
    (hK : ∀ l' hl' H' ρ' w', Mt n ρ' l' → Ok c w' H' hl' → F l' hl' H' → K (fr n ρ') w') : wpOp P ops.toArray Q i K (fr n ρ) w := by
  unfold wpOp
  simp only [hi]
  rcases h with ⟨h1, h2⟩ | ⟨h1, h2⟩
  · rw [wanted_wl hm h1]
    simp only [Bool.false_eq_true, if_false]
    obtain ⟨ρ', e, hm'⟩ := fr_insl hm hd undef
    rw [e]
    exact hK _ _ _ _ _ hm' ho h2
  · rw [wanted_wl hm h1]
    simp only [if_true]
    refine .inl ?_
    rcases h2 with ⟨_, v, h3, h4⟩ | ⟨_, mk, obj, h3, h4⟩
    · refine upon_op (R := fun u w' => u = v ∧ w' = w) ?_ ?_
      · rw [h3 _ w hm.knows ho.hasL]
        exact ⟨rfl, rfl⟩
      · rintro u w' ⟨rfl, rfl⟩
        obtain ⟨ρ', e, hm'⟩ := fr_insl hm hd u
        rw [e]
        exact hK _ _ _ _ _ hm' ho h4
    · refine upon_op (R := fun u w' => u = mk w.heap.size ∧ w' = w.alloc obj) ?_ ?_
      · rw [h3 _ w hm.knows]
        exact ⟨rfl, rfl⟩
      · rintro u w' ⟨rfl, rfl⟩
        obtain ⟨ρ', e, hm'⟩ := fr_insl hm hd (mk w.heap.size)
        rw [e]
        exact hK _ _ _ _ _ hm' (ho.alloc obj) (h4 _)
theorem KR.run (hsel : selOk ops.toArray) (hedge : ∀ (i : Nat) (o : Oper), ops[i]? = some o → ∀ e ∈ o.after.toList, Region.binds .any e = true → e.on < i) (hdst : ∀ (i : Nat) (o : Oper), ops[i]? = some o → ∀ d, o.dst = some d → Nat.blt d n = true) :
    ∀ (fuel : Nat) (R : List Nat) (listed : Array Bool) (l : KL) (hl : HL) (H : View) (ρ : Env) (w : World), R.length = fuel → R.Nodup → (∀ i ∈ R, i < ops.length) → listed.size = ops.length →
      (∀ i, i < ops.length → (listed.getD i true = false ↔ i ∈ R)) → (∀ i o, i ∉ R → ops[i]? = some o → ∀ e ∈ o.after.toList, Region.binds .any e = true → e.on ∉ R) →
      (R.Pairwise fun y x => pairOk ops (masks [] ops) y x = true) → Mt n ρ l → Ok c w H hl → KR P n ops.toArray (TQ n c Q) R l hl H → wpAny P .any ops.toArray Q fuel listed (fr n ρ) w := by
  intro fuel
  induction fuel with
  | zero =>
    intro R listed l hl H ρ w hlen _ _ hsz hmem _ _ hm ho h
    have hR : R = [] := List.eq_nil_of_length_eq_zero hlen
    subst hR
    refine ⟨?_, h ρ w hm ho⟩
    cases hr : Region.ready .any ops.toArray listed with
    | nil => rfl
    | cons x xs =>
      obtain ⟨h1, h2, _⟩ := mem_ready (show x ∈ Region.ready .any ops.toArray listed by rw [hr]; simp)
      have := (hmem x (by simpa using h1)).1 h2
      cases this
  | succ fuel ih =>
    intro R listed l hl H ρ w hlen hnd hlt hsz hmem hclo hpair hm ho h
    have hRne : R ≠ [] := by intro e; subst e; simp at hlen
    refine ⟨?_, ?_⟩
    · -- something is ready: the least that is left
      intro hr
      exfalso
      have hex : ∃ i, i ∈ R := by cases R with | nil => exact absurd rfl hRne | cons a _ => exact ⟨a, by simp⟩
      have hmin : ∀ k i, i ≤ k → i ∈ R → False := by
        intro k
        induction k with
        | zero =>
          intro i hi hiR
          have hi0 : i = 0 := by omega
          subst hi0
          have hlt0 := hlt 0 hiR
          have := ready_of (md := .any) (os := ops.toArray) (listed := listed) (i := 0) (o := ops[0]) (by simpa using hlt0) ((hmem 0 hlt0).2 hiR) (by simp [hlt0])
            (fun e he hb => absurd (hedge 0 ops[0] (List.getElem?_eq_getElem hlt0) e he hb) (Nat.not_lt_zero _))
          rw [hr] at this; cases this
        | succ k ihk =>
          intro i hi hiR
          have hlti := hlt i hiR
          have := ready_of (md := .any) (os := ops.toArray) (listed := listed) (i := i) (o := ops[i]) (by simpa using hlti) ((hmem i hlti).2 hiR) (by simp [hlti])
            (fun e he hb => by
              have he' := hedge i ops[i] (List.getElem?_eq_getElem hlti) e he hb
              have hlte : e.on < ops.length := Nat.lt_trans he' hlti
              have hn : e.on ∉ R := fun hin => ihk e.on (by omega) hin
              have h2 : listed.getD e.on true = true := by
                cases hb2 : listed.getD e.on true with
                | true => rfl
                | false => exact absurd ((hmem e.on hlte).1 hb2) hn
              simpa [Array.getD, hsz, hlte] using h2)
          rw [hr] at this; cases this
      obtain ⟨i, hi⟩ := hex
      exact hmin i i (Nat.le_refl _) hi
    · intro x hx
      obtain ⟨h1, h2, o, ho', hdeps⟩ := mem_ready hx
      have hxl : x < ops.length := by simpa using h1
      have hoL : ops[x]? = some o := by simpa using ho'
      have hxR : x ∈ R := (hmem x hxl).1 h2
      obtain ⟨pre, post, rfl⟩ := List.append_of_mem hxR
      have hdeps' : ∀ e ∈ o.after.toList, Region.binds .any e = true → e.on ∉ pre ++ x :: post := by
        intro e he hb hin
        have hlte := hlt e.on hin
        have h3 := hdeps e he hb
        have h4 := (hmem e.on hlte).2 hin
        simp [Array.getD, hsz, hlte] at h3 h4
        rw [h3] at h4; cases h4
      have hbef : ∀ y ∈ pre ++ x :: post, ((masks [] ops).getD x 0).testBit y = false := by
        intro y hy
        cases hb : ((masks [] ops).getD x 0).testBit y with
        | false => rfl
        | true =>
          exact absurd hy (masks_closed (fun i => i ∉ pre ++ x :: post) (fun i o hi ho e he hb => hclo i o hi ho e he hb) x o hoL hdeps' y hb)
      have hpp := hpair
      rw [List.pairwise_append] at hpair
      obtain ⟨hp1, hp2, hp3⟩ := hpair
      rw [List.pairwise_cons] at hp2
      have hfree : ∀ y ∈ pre, ∀ oy, ops.toArray[y]? = some oy → oy.apart ops.toArray o = true ∧ (cls oy.op = 0 ∨ cls o.op = 1) := by
        intro y hy oy hoy
        have h5 := hp3 y hy x (by simp)
        simp only [pairOk, hbef y (List.mem_append_left _ hy), Bool.false_or] at h5
        have hoyL : ops[y]? = some oy := by simpa using hoy
        rw [hoyL, hoL] at h5
        simp only [Bool.and_eq_true, Bool.or_eq_true] at h5
        exact ⟨h5.1, h5.2.imp Nat.eq_of_beq_eq_true Nat.eq_of_beq_eq_true⟩
      have hnd2 := hnd
      rw [List.nodup_append, List.nodup_cons] at hnd2
      obtain ⟨nd1, ⟨nd2, nd3⟩, nd4⟩ := hnd2
      have hxpre : x ∉ pre := fun hin => nd4 x hin x (by simp) rfl
      -- the rest, whoever is done
      have rest : ∀ l' hl' H' ρ' w', Mt n ρ' l' → Ok c w' H' hl' → KR P n ops.toArray (TQ n c Q) (pre ++ post) l' hl' H' →
          wpAny P .any ops.toArray Q fuel (listed.setIfInBounds x true) (fr n ρ') w' := by
        intro l' hl' H' ρ' w' hm' ho'' hkd
        refine ih (pre ++ post) _ l' hl' H' ρ' w' ?_ ?_ ?_ (by simpa using hsz) ?_ ?_ ?_ hm' ho'' hkd
        · simp at hlen ⊢; omega
        · rw [List.nodup_append]; exact ⟨nd1, nd3, fun a ha b hb => nd4 a ha b (List.mem_cons_of_mem _ hb)⟩
        · intro i hi
          refine hlt i ?_
          rcases List.mem_append.1 hi with hi | hi
          · exact List.mem_append_left _ hi
          · exact List.mem_append_right _ (List.mem_cons_of_mem _ hi)
        · intro i hi
          by_cases hix : x = i
          · subst hix
            constructor
            · intro h7; simp [Array.getD, hsz, hi] at h7
            · intro h7; rcases List.mem_append.1 h7 with h7 | h7
              · exact absurd h7 hxpre
              · exact absurd h7 nd2
          · have h8 : (listed.setIfInBounds x true).getD i true = listed.getD i true := by
              simp [Array.getD, hsz, hi, hix]
            rw [h8, hmem i hi]
            simp [Ne.symm hix]
        · intro i oi hi hoi e he hb hin
          have hin' : e.on ∈ pre ++ x :: post := by
            rcases List.mem_append.1 hin with h9 | h9
            · exact List.mem_append_left _ h9
            · exact List.mem_append_right _ (List.mem_cons_of_mem _ h9)
          by_cases hix : i = x
          · subst hix
            rw [hoL] at hoi; cases hoi
            exact hdeps' e he hb hin'
          · refine hclo i oi ?_ hoi e he hb hin'
            intro h9
            rcases List.mem_append.1 h9 with h9 | h9
            · exact hi (List.mem_append_left _ h9)
            · rcases List.mem_cons.1 h9 with h9 | h9
              · exact hix h9
              · exact hi (List.mem_append_right _ h9)
        · rw [List.pairwise_append]
          exact ⟨hp1, hp2.2, fun a ha b hb => hp3 a ha b (List.mem_cons_of_mem _ hb)⟩
      have hd := hdst x o hoL
      by_cases hc1 : cls o.op = 1
      · -- it makes a block, or is passed over
        have hah := KR.ahead hsel ho' hc1 pre post l hl H (fun y hy oy ox h3 h4 => by rw [ho'] at h4; cases h4; exact hfree y hy oy h3) h
        have hap : ∀ y ∈ pre, ∀ oy, ops.toArray[y]? = some oy → oy.apart ops.toArray o = true := fun y hy oy hoy => (hfree y hy oy hoy).1
        rcases hah with hw | ⟨hw, mk, obj, hal⟩
        · have hk := KR.outA (v := undef) (extra := []) hsel TQ.inv ho' pre post l hl H hap
            (fun l' hl' H' F ha hx => by
              rcases hx with ⟨_, h3⟩ | ⟨h3, _⟩
              · exact h3
              · rw [← wl_agree ha, hw] at h3; cases h3) h
          refine XR.run (F := KR P n ops.toArray (TQ n c Q) (pre ++ post)) ho' hd hm ho (.inl ⟨hw, by simpa using hk⟩) ?_
          intro l' hl' H' ρ' w' hm' ho'' hf
          exact rest l' hl' H' ρ' w' hm' ho'' hf
        · have hk := fun b => KR.outA (v := mk b) (extra := [blk b obj]) hsel TQ.inv ho' pre post l hl H hap
            (fun l' hl' H' F ha hx => by
              rcases hx with ⟨h3, _⟩ | ⟨h3, h4⟩
              · rw [← wl_agree ha, hw] at h3; cases h3
              · rcases h4 with ⟨h4, _⟩ | ⟨_, mk', obj', h5, h6⟩
                · omega
                · have hal' := hal.agree (ops := ops.toArray) (hsel x o ho') ha
                  obtain ⟨rfl, rfl⟩ := hal'.det h5
                  exact h6 b) h
          refine XR.run (F := KR P n ops.toArray (TQ n c Q) (pre ++ post)) ho' hd hm ho (.inr ⟨hw, .inr ⟨hc1, mk, obj, hal, fun b => by simpa using hk b⟩⟩) ?_
          intro l' hl' H' ρ' w' hm' ho'' hf
          exact rest l' hl' H' ρ' w' hm' ho'' hf
      · have hk := KR.outC hsel TQ.inv ho' pre post l hl H (fun y hy oy hoy => ⟨(hfree y hy oy hoy).1, (hfree y hy oy hoy).2.resolve_right hc1⟩) h
        obtain ⟨o2, h3, h4⟩ := hk
        rw [ho'] at h3; cases h3
        refine XR.run ho' hd hm ho h4 ?_
        intro l' hl' H' ρ' w' hm' ho'' hf
        exact rest l' hl' H' ρ' w' hm' ho'' hf
theorem K_regionR {id : Nat} {R : List Nat} (hok : drawOk n ops false R = true) (hmix : P.follows .mixedOrders = true)
    (h : KR P n ops.toArray (TQ n c Q) R l hl H) : KC P n c (.region id ops.toArray true) Q l hl H := by
  intro ρ w hm ho
  have hd := DOk.of hok
  refine wp_region_any hmix ?_
  have hlen : R.length = ops.length := by
    have h1 : R.Perm (List.range ops.length) := by
      rw [List.perm_ext_iff_of_nodup hd.nd List.nodup_range]
      intro a
      rw [List.mem_range]
      exact ⟨hd.lt a, hd.all a⟩
    simpa using h1.length_eq
  refine KR.run (fun i o ho => hd.sel i o (by simpa using ho)) hd.edge hd.dst ops.toArray.size R _ l hl H ρ w.drew (by simpa using hlen) hd.nd hd.lt (by simp) ?_ ?_ hd.pair hm ho.drew h
  · intro i hi
    constructor
    · intro _; exact hd.all i hi
    · intro _; simp [Array.getD, hi]
  · intro i o hi hoi
    exact absurd (hd.all i (List.getElem?_eq_some_iff.1 hoi).1) hi

end
section
variable {P : Program} {n : Nat} {c : Cx} {Q : Exit → Act → World → Prop} {l : KL} {hl : HL} {H : View} {ol : List Oper} {T : ST} {R : List Nat} {i d : Nat} {op : Op} {ty : TypeId} {pos : String} {aft : Array Edge} {g : Option (Nat × Bool)} {v : Value}
theorem DR_done (h : KQ n c Q .normal l hl H) : KR P n ol.toArray (TQ n c Q) [] l hl H := h
theorem DR_val (hi : nthO ol i = some ⟨some d, op, ty, pos, aft, g⟩) (hw : wlO ol l g = some true) (hc : Nat.beq (cls op) 0 = true) (hv : ValOk P l H hl op ty v)
    (h : KR P n ol.toArray T R ((d, v) :: l) hl H) : KR P n ol.toArray T (i :: R) l hl H :=
  ⟨_, toA hi, .inr ⟨wlO_eq hw, .inl ⟨Nat.eq_of_beq_eq_true hc, v, hv, h⟩⟩⟩
theorem DR_alloc {mk : Nat → Value} {o : Obj} (hi : nthO ol i = some ⟨some d, op, ty, pos, aft, g⟩) (hw : wlO ol l g = some true) (hc : Nat.beq (cls op) 1 = true) (hv : AllocOk P l op ty mk o)
    (h : ∀ b, KR P n ol.toArray T R ((d, mk b) :: l) (blk b o :: hl) H) : KR P n ol.toArray T (i :: R) l hl H :=
  ⟨_, toA hi, .inr ⟨wlO_eq hw, .inr ⟨Nat.eq_of_beq_eq_true hc, mk, o, hv, h⟩⟩⟩
end
end Pal

/-
  DERIVED: THE SHELF's CONTRACTS AT THIS DUMP, IN PLAIN WORDS (tools/lay-plain.mjs out of 'LayEs.lean', which tools/lay-shelf.mjs wrote): THE SAME DECLARATIONS UNDER THE SAME NAMES: 'import', 'namespace', 'open', 'def', 'theorem' AND NOTHING ELSE: no command of the shelf's: FOR A HAND-IN. Each laying: the table of numbers ('.._ren') and one theorem, a field a fact of the dump's own or the kernel's comparison; each contract: ONE APPLICATION.
-/
namespace Go.Proofs
open Go.Shelf
def Tryz.layR_ren : Go.Shelf.Ren := ⟨fun | 6 => 131 | 15 => 129 | 14 => 156 | 28 => 154 | 29 => 155 | 20 => 163 | 21 => 164 | 22 => 165 | 23 => 166 | 24 => 167 | 25 => 168 | 26 => 169 | 27 => 170 | 46 => 172 | 47 => 159 | 48 => 160 | 49 => 173 | 50 => 174 | 57 => 175 | n => n, fun | 22 => 34 | 24 => 94 | 25 => 180 | 3 => 3 | 39 => 110 | 0 => 0 | 53 => 108 | 55 => 55 | 4 => 4 | 46 => 198 | 45 => 197 | 50 => 203 | 5 => 5 | 9 => 9 | 66 => 209 | 70 => 213 | 76 => 220 | 77 => 221 | n => n, fun | n => n⟩
theorem Tryz.layR : Go.Proofs.SlLaysF0.n6 Tryz.prog Tryz.layR_ren := {
  mixed := by kernel_rfl
  f6 := ⟨Tryz.f131.name, by decide, Tryz.func131.trans (congrArg some (by kernel_rfl))⟩
  f14 := ⟨Tryz.f156.name, by decide, Tryz.func156.trans (congrArg some (by kernel_rfl))⟩
  f15 := Tryz.func129.trans (congrArg some (by kernel_rfl))
  f20 := ⟨Tryz.f163.name, by decide, Tryz.func163.trans (congrArg some (by kernel_rfl))⟩
  f21 := ⟨Tryz.f164.name, by decide, Tryz.func164.trans (congrArg some (by kernel_rfl))⟩
  f22 := ⟨Tryz.f165.name, by decide, Tryz.func165.trans (congrArg some (by kernel_rfl))⟩
  f23 := ⟨Tryz.f166.name, by decide, Tryz.func166.trans (congrArg some (by kernel_rfl))⟩
  f24 := ⟨Tryz.f167.name, by decide, Tryz.func167.trans (congrArg some (by kernel_rfl))⟩
  f25 := ⟨Tryz.f168.name, by decide, Tryz.func168.trans (congrArg some (by kernel_rfl))⟩
  f26 := ⟨Tryz.f169.name, by decide, Tryz.func169.trans (congrArg some (by kernel_rfl))⟩
  f27 := ⟨Tryz.f170.name, by decide, Tryz.func170.trans (congrArg some (by kernel_rfl))⟩
  f28 := Tryz.func154.trans (congrArg some (by kernel_rfl))
  f29 := Tryz.func155.trans (congrArg some (by kernel_rfl))
  f46 := ⟨Tryz.f172.name, by decide, Tryz.func172.trans (congrArg some (by kernel_rfl))⟩
  f47 := Tryz.func159.trans (congrArg some (by kernel_rfl))
  f48 := Tryz.func160.trans (congrArg some (by kernel_rfl))
  f49 := ⟨Tryz.f173.name, by decide, Tryz.func173.trans (congrArg some (by kernel_rfl))⟩
  f50 := ⟨Tryz.f174.name, by decide, Tryz.func174.trans (congrArg some (by kernel_rfl))⟩
  f57 := ⟨Tryz.f175.name, by decide, Tryz.func175.trans (congrArg some (by kernel_rfl))⟩
  t0 := Tryz.underlying0
  a0 := Tryz.isAgg0
  z0 := Tryz.sizeOf0
  v0 := Tryz.zeroValue0
  t3 := Tryz.underlying3
  a3 := Tryz.isAgg3
  z3 := Tryz.sizeOf3
  v3 := Tryz.zeroValue3
  t4 := Tryz.underlying4
  a4 := Tryz.isAgg4
  z4 := Tryz.sizeOf4
  v4 := Tryz.zeroValue4
  t5 := Tryz.underlying5
  a5 := Tryz.isAgg5
  z5 := Tryz.sizeOf5
  v5 := Tryz.zeroValue5
  t9 := Tryz.underlying9
  a9 := Tryz.isAgg9
  z9 := Tryz.sizeOf9
  v9 := Tryz.zeroValue9
  t22 := Tryz.underlying34
  a22 := Tryz.isAgg34
  z22 := Tryz.sizeOf34
  v22 := Tryz.zeroValue34
  t25 := Tryz.underlying180
  a25 := Tryz.isAgg180
  z25 := Tryz.sizeOf180
  v25 := Tryz.zeroValue180
  t39 := Tryz.underlying110
  a39 := Tryz.isAgg110
  z39 := Tryz.sizeOf110
  v39 := Tryz.zeroValue110
  t45 := Tryz.underlying197
  a45 := Tryz.isAgg197
  z45 := Tryz.sizeOf197
  v45 := Tryz.zeroValue197
  t46 := Tryz.underlying198
  a46 := Tryz.isAgg198
  z46 := Tryz.sizeOf198
  v46 := Tryz.zeroValue198
  t50 := Tryz.underlying203
  a50 := Tryz.isAgg203
  z50 := Tryz.sizeOf203
  v50 := Tryz.zeroValue203
  t53 := Tryz.underlying108
  a53 := Tryz.isAgg108
  z53 := Tryz.sizeOf108
  v53 := Tryz.zeroValue108
  t55 := Tryz.underlying55
  a55 := Tryz.isAgg55
  z55 := Tryz.sizeOf55
  v55 := Tryz.zeroValue55
  t66 := Tryz.underlying209
  a66 := Tryz.isAgg209
  z66 := Tryz.sizeOf209
  v66 := Tryz.zeroValue209
  t70 := Tryz.underlying213
  a70 := Tryz.isAgg213
  z70 := Tryz.sizeOf213
  v70 := Tryz.zeroValue213
  t76 := Tryz.underlying220
  a76 := Tryz.isAgg220
  z76 := Tryz.sizeOf220
  v76 := Tryz.zeroValue220
  t77 := Tryz.underlying221
  a77 := Tryz.isAgg221
  z77 := Tryz.sizeOf221
  v77 := Tryz.zeroValue221 }
def Tryz.layI_ren : Go.Shelf.Ren := ⟨fun | 53 => 100 | 64 => 129 | 63 => 128 | 78 => 154 | 79 => 155 | 70 => 145 | 71 => 146 | 72 => 147 | 73 => 148 | 74 => 149 | 75 => 150 | 59 => 151 | 76 => 152 | 77 => 153 | 88 => 158 | 89 => 159 | 90 => 160 | 91 => 161 | 92 => 162 | 68 => 102 | 96 => 171 | n => n, fun | 22 => 22 | 23 => 3 | 3 => 3 | 51 => 110 | 0 => 0 | 67 => 108 | 69 => 55 | 4 => 4 | 61 => 198 | 60 => 197 | 44 => 203 | 5 => 5 | 9 => 9 | 75 => 209 | 79 => 213 | 83 => 220 | 84 => 221 | n => n, fun | n => n⟩
theorem Tryz.layI : Go.Proofs.SlLaysN.n53 Tryz.prog Tryz.layI_ren := {
  mixed := by kernel_rfl
  f53 := ⟨Tryz.f100.name, by decide, Tryz.func100.trans (congrArg some (by kernel_rfl))⟩
  f59 := ⟨Tryz.f151.name, by decide, Tryz.func151.trans (congrArg some (by kernel_rfl))⟩
  f63 := ⟨Tryz.f128.name, by decide, Tryz.func128.trans (congrArg some (by kernel_rfl))⟩
  f64 := Tryz.func129.trans (congrArg some (by kernel_rfl))
  f68 := ⟨Tryz.f102.name, by decide, Tryz.func102.trans (congrArg some (by kernel_rfl))⟩
  f70 := ⟨Tryz.f145.name, by decide, Tryz.func145.trans (congrArg some (by kernel_rfl))⟩
  f71 := ⟨Tryz.f146.name, by decide, Tryz.func146.trans (congrArg some (by kernel_rfl))⟩
  f72 := ⟨Tryz.f147.name, by decide, Tryz.func147.trans (congrArg some (by kernel_rfl))⟩
  f73 := ⟨Tryz.f148.name, by decide, Tryz.func148.trans (congrArg some (by kernel_rfl))⟩
  f74 := ⟨Tryz.f149.name, by decide, Tryz.func149.trans (congrArg some (by kernel_rfl))⟩
  f75 := ⟨Tryz.f150.name, by decide, Tryz.func150.trans (congrArg some (by kernel_rfl))⟩
  f76 := ⟨Tryz.f152.name, by decide, Tryz.func152.trans (congrArg some (by kernel_rfl))⟩
  f77 := ⟨Tryz.f153.name, by decide, Tryz.func153.trans (congrArg some (by kernel_rfl))⟩
  f78 := Tryz.func154.trans (congrArg some (by kernel_rfl))
  f79 := Tryz.func155.trans (congrArg some (by kernel_rfl))
  f88 := ⟨Tryz.f158.name, by decide, Tryz.func158.trans (congrArg some (by kernel_rfl))⟩
  f89 := Tryz.func159.trans (congrArg some (by kernel_rfl))
  f90 := Tryz.func160.trans (congrArg some (by kernel_rfl))
  f91 := ⟨Tryz.f161.name, by decide, Tryz.func161.trans (congrArg some (by kernel_rfl))⟩
  f92 := ⟨Tryz.f162.name, by decide, Tryz.func162.trans (congrArg some (by kernel_rfl))⟩
  f96 := ⟨Tryz.f171.name, by decide, Tryz.func171.trans (congrArg some (by kernel_rfl))⟩
  t0 := Tryz.underlying0
  a0 := Tryz.isAgg0
  z0 := Tryz.sizeOf0
  v0 := Tryz.zeroValue0
  t3 := Tryz.underlying3
  a3 := Tryz.isAgg3
  z3 := Tryz.sizeOf3
  v3 := Tryz.zeroValue3
  t4 := Tryz.underlying4
  a4 := Tryz.isAgg4
  z4 := Tryz.sizeOf4
  v4 := Tryz.zeroValue4
  t5 := Tryz.underlying5
  a5 := Tryz.isAgg5
  z5 := Tryz.sizeOf5
  v5 := Tryz.zeroValue5
  t9 := Tryz.underlying9
  a9 := Tryz.isAgg9
  z9 := Tryz.sizeOf9
  v9 := Tryz.zeroValue9
  t22 := Tryz.underlying22
  a22 := Tryz.isAgg22
  z22 := Tryz.sizeOf22
  v22 := Tryz.zeroValue22
  t23 := Tryz.underlying3
  a23 := Tryz.isAgg3
  z23 := Tryz.sizeOf3
  v23 := Tryz.zeroValue3
  t44 := Tryz.underlying203
  a44 := Tryz.isAgg203
  z44 := Tryz.sizeOf203
  v44 := Tryz.zeroValue203
  t51 := Tryz.underlying110
  a51 := Tryz.isAgg110
  z51 := Tryz.sizeOf110
  v51 := Tryz.zeroValue110
  t60 := Tryz.underlying197
  a60 := Tryz.isAgg197
  z60 := Tryz.sizeOf197
  v60 := Tryz.zeroValue197
  t61 := Tryz.underlying198
  a61 := Tryz.isAgg198
  z61 := Tryz.sizeOf198
  v61 := Tryz.zeroValue198
  t67 := Tryz.underlying108
  a67 := Tryz.isAgg108
  z67 := Tryz.sizeOf108
  v67 := Tryz.zeroValue108
  t69 := Tryz.underlying55
  a69 := Tryz.isAgg55
  z69 := Tryz.sizeOf55
  v69 := Tryz.zeroValue55
  t75 := Tryz.underlying209
  a75 := Tryz.isAgg209
  z75 := Tryz.sizeOf209
  v75 := Tryz.zeroValue209
  t79 := Tryz.underlying213
  a79 := Tryz.isAgg213
  z79 := Tryz.sizeOf213
  v79 := Tryz.zeroValue213
  t83 := Tryz.underlying220
  a83 := Tryz.isAgg220
  z83 := Tryz.sizeOf220
  v83 := Tryz.zeroValue220
  t84 := Tryz.underlying221
  a84 := Tryz.isAgg221
  z84 := Tryz.sizeOf221
  v84 := Tryz.zeroValue221 }
end Go.Proofs

/-
  The numbers that functions and types have in this seat, under names that are the same in every seat. Own work.
-/
namespace Go.Proofs.X
open Go Pal
abbrev F2 : FuncId := 2
abbrev F17 : FuncId := 12
abbrev F36 : FuncId := 47
abbrev F45 : FuncId := 85
abbrev F51 : FuncId := 81
abbrev F63 : FuncId := 35
abbrev F65 : FuncId := 87
abbrev F72 : FuncId := 77
abbrev F74 : FuncId := 86
abbrev F77 : FuncId := 40
abbrev F85 : FuncId := 78
abbrev F86 : FuncId := 64
abbrev F87 : FuncId := 79
abbrev F88 : FuncId := 80
abbrev F89 : FuncId := 55
abbrev F91 : FuncId := 56
abbrev F95 : FuncId := 114
abbrev F96 : FuncId := 115
abbrev F97 : FuncId := 116
abbrev F100 : FuncId := 88
abbrev F101 : FuncId := 89
abbrev F110 : FuncId := 101
abbrev F112 : FuncId := 138
abbrev F113 : FuncId := 139
abbrev F118 : FuncId := 68
abbrev F119 : FuncId := 122
abbrev F2018 : FuncId := 25
abbrev F2019 : FuncId := 26
abbrev F2029 : FuncId := 70
abbrev F2035 : FuncId := 27
abbrev F2036 : FuncId := 98
abbrev F2037 : FuncId := 130
abbrev F2039 : FuncId := 100
abbrev F2041 : FuncId := 46
abbrev F2044 : FuncId := 157
abbrev F2045 : FuncId := 109
abbrev F2046 : FuncId := 58
abbrev F2047 : FuncId := 59
abbrev F2050 : FuncId := 132
abbrev F2054 : FuncId := 103
abbrev F2055 : FuncId := 104
abbrev F2056 : FuncId := 105
abbrev F2057 : FuncId := 106
abbrev F2058 : FuncId := 107
abbrev F2059 : FuncId := 108
abbrev F2062 : FuncId := 60
abbrev F2063 : FuncId := 61
abbrev F2064 : FuncId := 62
abbrev F2068 : FuncId := 92
abbrev F2071 : FuncId := 67
abbrev F2072 : FuncId := 131
abbrev F2073 : FuncId := 133
abbrev F2074 : FuncId := 134
abbrev F2075 : FuncId := 135
abbrev F2076 : FuncId := 66
abbrev F2089 : FuncId := 102
abbrev F2115 : FuncId := 17
abbrev F2122 : FuncId := 51
abbrev F2145 : FuncId := 9
abbrev F2146 : FuncId := 19
abbrev F2147 : FuncId := 23
abbrev F2148 : FuncId := 21
abbrev F2153 : FuncId := 13
abbrev F2154 : FuncId := 30
abbrev F2155 : FuncId := 39
abbrev F2156 : FuncId := 54
abbrev F2166 : FuncId := 43
abbrev F2167 : FuncId := 41
abbrev F2168 : FuncId := 42
abbrev F2169 : FuncId := 45
abbrev F2170 : FuncId := 71
abbrev F2171 : FuncId := 72
abbrev F2172 : FuncId := 73
abbrev F2173 : FuncId := 74
abbrev F2174 : FuncId := 96
abbrev F2175 : FuncId := 97
abbrev F2184 : FuncId := 29
abbrev F2185 : FuncId := 90
abbrev F2186 : FuncId := 91
abbrev F2187 : FuncId := 110
abbrev F2188 : FuncId := 111
abbrev F2189 : FuncId := 125
abbrev F2200 : FuncId := 69
abbrev F2216 : FuncId := 8
abbrev F2221 : FuncId := 24
abbrev F2223 : FuncId := 37
abbrev F2224 : FuncId := 38
abbrev F2227 : FuncId := 57
abbrev F2228 : FuncId := 82
abbrev F2229 : FuncId := 83
abbrev F2230 : FuncId := 84
abbrev F2231 : FuncId := 117
abbrev F2232 : FuncId := 118
abbrev F2233 : FuncId := 119
abbrev F2234 : FuncId := 120
abbrev F2235 : FuncId := 121
abbrev F2236 : FuncId := 140
abbrev F2237 : FuncId := 141
abbrev F2238 : FuncId := 142
abbrev T0 : TypeId := 0
abbrev T1 : TypeId := 1
abbrev T2 : TypeId := 2
abbrev T3 : TypeId := 3
abbrev T4 : TypeId := 4
abbrev T25 : TypeId := 22
abbrev T28 : TypeId := 28
abbrev T30 : TypeId := 39
abbrev T40 : TypeId := 23
abbrev T42 : TypeId := 25
abbrev T44 : TypeId := 52
abbrev T47 : TypeId := 33
abbrev T48 : TypeId := 34
abbrev T50 : TypeId := 36
abbrev T52 : TypeId := 29
abbrev T54 : TypeId := 59
abbrev T85 : TypeId := 94
abbrev T100 : TypeId := 85
abbrev T164 : TypeId := 108
abbrev T2007 : TypeId := 62
abbrev T2009 : TypeId := 64
abbrev T2035 : TypeId := 103
abbrev T2036 : TypeId := 152
abbrev T2048 : TypeId := 124
abbrev T2129 : TypeId := 54
abbrev T2143 : TypeId := 102
abbrev T2159 : TypeId := 87
abbrev T2161 : TypeId := 89
abbrev T2184 : TypeId := 139
abbrev T2220 : TypeId := 133
abbrev T2221 : TypeId := 134
abbrev T2222 : TypeId := 164
abbrev T2225 : TypeId := 167
abbrev T2227 : TypeId := 169
abbrev T2230 : TypeId := 172
abbrev T2232 : TypeId := 187
abbrev T2233 : TypeId := 188
abbrev T2236 : TypeId := 191
end Go.Proofs.X
