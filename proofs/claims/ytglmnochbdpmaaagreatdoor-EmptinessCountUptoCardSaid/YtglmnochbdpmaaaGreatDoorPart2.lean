/-
  Part of the proof: rules for walks, contracts of the functions that the statements reach, plain laws. Own work. No statement of the seat is proved here.
-/
import Derived.Test.YtglmnochbdpmaaaGreatDoorPart1
import Derived.Below
import Derived.Laws.BytesArg
import Derived.Lib.ItoaMem
import Derived.Lib.Repeat
import Derived.Lib.Join
import Derived.Test.YtglmnochbdpmaaaGreatDoorPalF
import Derived.Shelf.Strings.Repeat
import Derived.Shelf.Strings.OnBuilder
import Derived.Shelf.Strconv.Itoa1
import Derived.Shelf.Strconv.Itoa2
import Derived.Shelf.Slices.ReverseS
import Derived.Lib.LaidTab
import Derived.Lib.ItoaLen
import Derived.ChangeArms
import Derived.ChangeSame
import Derived.WideKeyArgs
import Derived.Ground.NamesProg
import Derived.Ground.Names2Prog
import Derived.Test.YtglmnochbdpmaaaGreatDoorProg
import Derived.Test.YtglmnochbdpmaaaGreatDoorPalG
import Derived.Shelf.SlSortCmp.NoneTotal
import Derived.Shelf.SortG.Plain
import Derived.Shelf.SortG.SortNone
import Derived.Ground.SlsfProg
import Derived.Ground.SlgnProg
/-
  The least accepted preimage of a tree: what the tables hold, and that it is the least. Plain Lean, no program. Own work.
-/
namespace Pal
open Go Go.Proofs Go.Proofs.X
/-! ### Trees asx slices of symbols -/
mutual
def Tr.code : Tr → List Int
  | .node s ts => s :: Tr.codes ts
def Tr.codes : List Tr → List Int
  | [] => []
  | t :: ts => Tr.code t ++ Tr.codes ts
end
theorem cmpL_append_ne {a b x y : List Int} (hl : a.length = b.length) (h : cmpL a b ≠ 0) : cmpL (a ++ x) (b ++ y) = cmpL a b := by
  rcases cmpL_vals a b with e | e | e
  · have h1 := cmpL_append_lt x y hl (by omega : cmpL a b < 0)
    rcases cmpL_vals (a ++ x) (b ++ y) with g | g | g <;> omega
  · exact absurd e h
  · have e2 : cmpL b a < 0 := by rw [cmpL_swap]; omega
    have h1 := cmpL_append_lt y x hl.symm e2
    rw [cmpL_swap] at h1
    rcases cmpL_vals (a ++ x) (b ++ y) with g | g | g <;> omega
theorem relabel_node {l : List Int} {s : Int} {us : List Tr} {x : Tr} (h : Tr.relabel l (.node s us) = some x) : ∃ ts, x = .node (l.getD s.toNat 0) ts ∧ (0 ≤ s ∧ s < l.length) ∧ Tr.relabels l us = some ts := by
  simp only [Tr.relabel] at h
  split at h
  · rename_i hs
    cases hr : Tr.relabels l us with
    | none => rw [hr] at h; cases h
    | some ts =>
      rw [hr] at h
      simp only [Option.map_some, Option.some.injEq] at h
      exact ⟨ts, h.symm, hs, rfl⟩
  · cases h
theorem relabels_cons {l : List Int} {us : List Tr} {t : Tr} {ts : List Tr} (h : Tr.relabels l us = some (t :: ts)) : ∃ u vs, us = u :: vs ∧ Tr.relabel l u = some t ∧ Tr.relabels l vs = some ts := by
  cases us with
  | nil => simp [Tr.relabels] at h
  | cons u vs =>
    simp only [Tr.relabels] at h
    cases hu : Tr.relabel l u with
    | none => rw [hu] at h; cases h
    | some t' =>
      rw [hu] at h
      cases hr : Tr.relabels l vs with
      | none => rw [hr] at h; simp at h
      | some ts' =>
        rw [hr] at h
        simp only [Option.map_some, Option.some.injEq, List.cons.injEq] at h
        exact ⟨u, vs, rfl, by rw [hu, h.1], by rw [hr, h.2]⟩
theorem relabels_nil {l : List Int} {us : List Tr} (h : Tr.relabels l us = some []) : us = [] := by
  cases us with
  | nil => rfl
  | cons u vs =>
    simp only [Tr.relabels] at h
    cases hu : Tr.relabel l u with
    | none => rw [hu] at h; cases h
    | some t' =>
      rw [hu] at h
      cases hr : Tr.relabels l vs with
      | none => rw [hr] at h; simp at h
      | some ts' => rw [hr] at h; simp at h
mutual
theorem code_len {l : List Int} : ∀ (x u : Tr), Tr.relabel l u = some x → u.code.length = x.size
  | .node y ts, .node s us, h => by
    obtain ⟨ts', e, _, h2⟩ := relabel_node h
    cases e
    rw [Tr.code, List.length_cons, codes_len ts us h2, Tr.size]; omega
theorem codes_len {l : List Int} : ∀ (ts us : List Tr), Tr.relabels l us = some ts → (Tr.codes us).length = Tr.sizes ts
  | [], us, h => by rw [relabels_nil h]; rfl
  | t :: ts, us, h => by
    obtain ⟨u, vs, rfl, h1, h2⟩ := relabels_cons h
    rw [Tr.codes, List.length_append, code_len t u h1, codes_len ts vs h2, Tr.sizes]
end
mutual
theorem code_inj {l : List Int} : ∀ (x u v : Tr), Tr.relabel l u = some x → Tr.relabel l v = some x → u.code = v.code → u = v
  | .node y ts, .node s us, .node s' vs, h, h', e => by
    obtain ⟨ts1, e1, _, h2⟩ := relabel_node h
    obtain ⟨ts2, e2, _, h2'⟩ := relabel_node h'
    cases e1
    simp only [Tr.node.injEq] at e2
    obtain ⟨_, rfl⟩ := e2
    rw [Tr.code, Tr.code] at e
    obtain ⟨e3, e4⟩ := List.cons.inj e
    rw [e3, codes_inj _ us vs h2 h2' e4]
theorem codes_inj {l : List Int} : ∀ (ts us vs : List Tr), Tr.relabels l us = some ts → Tr.relabels l vs = some ts → Tr.codes us = Tr.codes vs → us = vs
  | [], us, vs, h, h', _ => by rw [relabels_nil h, relabels_nil h']
  | t :: ts, us, vs, h, h', e => by
    obtain ⟨u, us', rfl, h1, h2⟩ := relabels_cons h
    obtain ⟨v, vs', rfl, h1', h2'⟩ := relabels_cons h'
    rw [Tr.codes, Tr.codes] at e
    obtain ⟨e1, e2⟩ := List.append_inj e (by rw [code_len t u h1, code_len t v h1'])
    rw [code_inj t u v h1 h1' e1, codes_inj ts us' vs' h2 h2' e2]
end
def srcs (l : List Int) (y : Int) : List Int := ((List.range l.length).filter fun (s : Nat) => decide (l.getD s 0 = y)).map fun (s : Nat) => (s : Int)
structure Ch where
  s : Int
  p : Int
  q : Int
  i : Int
  k : Int
def chV (c : Ch) : Value := .agg #[.int .i64 c.s, .int .i64 c.p, .int .i64 c.q, .int .i64 c.i, .int .i64 c.k]
def ch0 : Ch := ⟨0, 0, 0, 0, 0⟩
def keyC (c : Ch) : List Int := [c.s, c.i, c.k]
def updF (f : Int → Option Ch) (q : Int) (c : Ch) : Int → Option Ch := fun x => if q = x then some c else f x
def consF (f : Int → Option Ch) (x : Ch × Int) : Int → Option Ch := match f x.2 with
  | none => updF f x.2 x.1
  | some o => if cmpL (keyC x.1) (keyC o) < 0 then updF f x.2 x.1 else f
theorem fold_cons : ∀ (cs : List (Ch × Int)) (f : Int → Option Ch),
    (∀ q c, cs.foldl consF f q = some c → f q = some c ∨ (c, q) ∈ cs) ∧ (∀ q o, f q = some o → ∃ c, cs.foldl consF f q = some c ∧ cmpL (keyC c) (keyC o) ≤ 0) ∧ (∀ c q, (c, q) ∈ cs → ∃ c', cs.foldl consF f q = some c' ∧ cmpL (keyC c') (keyC c) ≤ 0)
  | [], f => ⟨fun q c h => .inl h, fun q o h => ⟨o, h, by rw [cmpL_self]; exact Int.le_refl _⟩, fun c q h => by cases h⟩
  | x :: cs, f => by
    obtain ⟨h1, h2, h3⟩ := fold_cons cs (consF f x)
    have hx : ∃ c, consF f x x.2 = some c ∧ cmpL (keyC c) (keyC x.1) ≤ 0 := by
      unfold consF
      cases ho : f x.2 with
      | none => exact ⟨x.1, by simp [updF], by rw [cmpL_self]; exact Int.le_refl _⟩
      | some o =>
        dsimp only
        by_cases hc : cmpL (keyC x.1) (keyC o) < 0
        · rw [if_pos hc]; exact ⟨x.1, by simp [updF], by rw [cmpL_self]; exact Int.le_refl _⟩
        · rw [if_neg hc]; exact ⟨o, ho, by rw [cmpL_swap]; omega⟩
    have hf : ∀ q c, consF f x q = some c → f q = some c ∨ (c, q) = x := by
      intro q c h
      unfold consF at h
      cases ho : f x.2 with
      | none =>
        rw [ho] at h
        dsimp only [updF] at h
        split at h
        · rename_i e; cases h; exact .inr (by rw [← e])
        · exact .inl h
      | some o =>
        rw [ho] at h
        dsimp only at h
        split at h
        · dsimp only [updF] at h
          split at h
          · rename_i e; cases h; exact .inr (by rw [← e])
          · exact .inl h
        · exact .inl h
    have hk : ∀ q o, f q = some o → ∃ c, consF f x q = some c ∧ cmpL (keyC c) (keyC o) ≤ 0 := by
      intro q o ho
      unfold consF
      cases hx2 : f x.2 with
      | none =>
        dsimp only [updF]
        by_cases e : x.2 = q
        · rw [e, ho] at hx2; cases hx2
        · rw [if_neg e]; exact ⟨o, ho, by rw [cmpL_self]; exact Int.le_refl _⟩
      | some o2 =>
        dsimp only
        by_cases hc : cmpL (keyC x.1) (keyC o2) < 0
        · rw [if_pos hc]
          dsimp only [updF]
          by_cases e : x.2 = q
          · rw [if_pos e]
            rw [e, ho] at hx2
            cases hx2
            exact ⟨x.1, rfl, by omega⟩
          · rw [if_neg e]; exact ⟨o, ho, by rw [cmpL_self]; exact Int.le_refl _⟩
        · rw [if_neg hc]; exact ⟨o, ho, by rw [cmpL_self]; exact Int.le_refl _⟩
    refine ⟨fun q c h => ?_, fun q o ho => ?_, fun c q h => ?_⟩
    · rcases h1 q c h with h | h
      · rcases hf q c h with h | h
        · exact .inl h
        · exact .inr (by rw [h]; exact List.mem_cons_self)
      · exact .inr (List.mem_cons_of_mem _ h)
    · obtain ⟨c, e1, e2⟩ := hk q o ho
      obtain ⟨c', e3, e4⟩ := h2 q c e1
      exact ⟨c', e3, cmpL_le_trans e4 e2⟩
    · rcases List.mem_cons.1 h with h | h
      · subst h
        obtain ⟨c1, e1, e2⟩ := hx
        obtain ⟨c', e3, e4⟩ := h2 _ c1 e1
        exact ⟨c', e3, cmpL_le_trans e4 e2⟩
      · exact h3 c q h
def atI (d : Dt) (s place : Int) : Int := (d.to.getD s.toNat []).getD place.toNat 0
inductive Tb where
  | mk (f : Int → Option Ch) (R : List Int) (kids : List Tb)
def Tb.f : Tb → Int → Option Ch | .mk f _ _ => f
def Tb.R : Tb → List Int | .mk _ R _ => R
def Tb.kids : Tb → List Tb | .mk _ _ k => k
mutual
def Tb.tree : Tb → Int → Tr
  | .mk f _ kids, q => .node ((f q).getD ch0).s (Tb.trees kids [((f q).getD ch0).p, ((f q).getD ch0).q])
def Tb.trees : List Tb → List Int → List Tr
  | [], _ => []
  | t :: ts, q :: qs => Tb.tree t q :: Tb.trees ts qs
  | t :: ts, [] => Tb.tree t 0 :: Tb.trees ts []
end
/-- The states of a table, in the order of their choices. -/
structure IsR (f : Int → Option Ch) (R : List Int) : Prop where
  nd : R.Nodup
  mem : ∀ q, q ∈ R ↔ (f q).isSome = true
  le : R.Pairwise fun x y => cmpL (keyC ((f x).getD ch0)) (keyC ((f y).getD ch0)) ≤ 0
/-- What a table says of its tree. -/
structure TbG (d : Dt) (l : List Int) (x : Tr) (tb : Tb) : Prop where
  has : ∀ u, Tr.relabel l u = some x → (tb.f (u.run d)).isSome = true ∧ cmpL (tb.tree (u.run d)).code u.code ≤ 0
  is : ∀ q, (tb.f q).isSome = true → Tr.relabel l (tb.tree q) = some x ∧ (tb.tree q).run d = q
  lt : tb.R.Pairwise fun p q => cmpL (tb.tree p).code (tb.tree q).code < 0
  mem : ∀ q, q ∈ tb.R ↔ (tb.f q).isSome = true
def treeC (kids : List Tb) (c : Ch) : Tr := .node c.s (Tb.trees kids [c.p, c.q])
/-- What is asked of the choices. -/
structure CandOk (d : Dt) (l : List Int) (x : Tr) (kids : List Tb) (cs : List (Ch × Int)) : Prop where
  f1 : ∀ c q, (c, q) ∈ cs → Tr.relabel l (treeC kids c) = some x ∧ (treeC kids c).run d = q
  f2 : ∀ u, Tr.relabel l u = some x → ∃ c, (c, u.run d) ∈ cs ∧ cmpL (treeC kids c).code u.code ≤ 0
  f3 : ∀ c q c' q', (c, q) ∈ cs → (c', q') ∈ cs → cmpL (keyC c) (keyC c') ≤ 0 → cmpL (treeC kids c).code (treeC kids c').code ≤ 0
theorem TbG.of {d : Dt} {l : List Int} {x : Tr} {R : List Int} {kids : List Tb} {cs : List (Ch × Int)} {f : Int → Option Ch} (hf : f = cs.foldl consF fun _ => none) (h : CandOk d l x kids cs) (hR : IsR f R) : TbG d l x (.mk f R kids) := by
  obtain ⟨g1, _, g3⟩ := fold_cons cs (fun _ => none)
  rw [← hf] at g1 g3
  have hin : ∀ q c, f q = some c → (c, q) ∈ cs := fun q c e => (g1 q c e).resolve_left (fun e2 => by cases e2)
  have htree : ∀ q c, f q = some c → Tb.tree (.mk f R kids) q = treeC kids c := fun q c e => by rw [Tb.tree, e]; rfl
  refine ⟨fun u hu => ?_, fun q hq => ?_, ?_, hR.mem⟩
  · obtain ⟨c, h1, h2⟩ := h.f2 u hu
    obtain ⟨c', h3, h4⟩ := g3 c _ h1
    refine ⟨by show (f (u.run d)).isSome = true; rw [h3]; rfl, ?_⟩
    rw [htree _ _ h3]
    exact cmpL_le_trans (h.f3 _ _ _ _ (hin _ _ h3) h1 h4) h2
  · obtain ⟨c, hc⟩ := Option.isSome_iff_exists.1 hq
    rw [htree _ _ hc]
    exact h.f1 c q (hin _ _ hc)
  · show R.Pairwise _
    refine List.Pairwise.imp_of_mem (fun {p q} hp hq hpq => ?_) (hR.le.and hR.nd)
    obtain ⟨c, hc⟩ := Option.isSome_iff_exists.1 ((hR.mem p).1 hp)
    obtain ⟨c', hc'⟩ := Option.isSome_iff_exists.1 ((hR.mem q).1 hq)
    have hle := hpq.1
    rw [hc, hc'] at hle
    rw [htree _ _ hc, htree _ _ hc']
    have h1 := h.f3 _ _ _ _ (hin _ _ hc) (hin _ _ hc') hle
    obtain ⟨h2, h3⟩ := h.f1 c p (hin _ _ hc)
    obtain ⟨h4, h5⟩ := h.f1 c' q (hin _ _ hc')
    rcases Int.lt_or_eq_of_le h1 with h6 | h6
    · exact h6
    · exfalso
      have e := code_inj _ _ _ h2 h4 (cmpL_eq.1 h6)
      exact hpq.2 (by rw [← h3, ← h5, e])
end Pal

/-
  The order of trees: total, and nodes grow with their children. Own work. No statement of the seat is proved here.
-/
namespace Pal
open Go Go.Proofs Go.Proofs.X
mutual
def Tr.key : Tr → List Int
  | .node s ts => ((Tr.node s ts).size : Int) :: s :: (ts.length : Int) :: Tr.keys ts
def Tr.keys : List Tr → List Int
  | [] => []
  | t :: r => Tr.key t ++ Tr.keys r
end
mutual
theorem key_len : ∀ t : Tr, t.key.length = 3 * t.size
  | .node s ts => by
    have := keys_len ts
    rw [Tr.key, Tr.size]; simp only [List.length_cons]; omega
theorem keys_len : ∀ ts : List Tr, (Tr.keys ts).length = 3 * Tr.sizes ts
  | [] => rfl
  | t :: r => by
    have h1 := key_len t
    have h2 := keys_len r
    rw [Tr.keys, Tr.sizes, List.length_append]; omega
end
theorem cmpL_cons (a b : Int) (xs ys : List Int) : cmpL (a :: xs) (b :: ys) = if cmpI a b ≠ 0 then cmpI a b else cmpL xs ys := by
  unfold cmpI
  rw [cmpL]
  by_cases h1 : a < b
  · simp [h1]
  · by_cases h2 : b < a
    · simp [h1, h2]
    · simp [h1, h2]
mutual
theorem cmp_key : ∀ t u : Tr, Tr.cmp t u = cmpL t.key u.key
  | .node s ts, .node v us => by
    rw [Tr.cmp, Tr.key, Tr.key, cmpL_cons, cmpL_cons, cmpL_cons]
    by_cases h1 : cmpI (Tr.node s ts).size (Tr.node v us).size ≠ 0
    · rw [if_pos h1, if_pos h1]
    rw [if_neg h1, if_neg h1]
    by_cases h2 : cmpI s v ≠ 0
    · rw [if_pos h2, if_pos h2]
    rw [if_neg h2, if_neg h2]
    by_cases h3 : cmpI (ts.length : Int) us.length ≠ 0
    · rw [if_pos h3, if_pos h3]
    rw [if_neg h3, if_neg h3]
    refine cmps_key ts us ?_
    simp only [cmpI] at h3
    split at h3
    · exact absurd (by decide) h3
    · split at h3
      · exact absurd (by decide) h3
      · omega
theorem cmps_key : ∀ ts us : List Tr, ts.length = us.length → Tr.cmps ts us = cmpL (Tr.keys ts) (Tr.keys us)
  | [], [], _ => rfl
  | [], _ :: _, h => by cases h
  | _ :: _, [], h => by cases h
  | t :: ts, u :: us, h => by
    rw [Tr.cmps, Tr.keys, Tr.keys, cmp_key t u, cmps_key ts us (by simpa using h)]
    by_cases hs : t.size = u.size
    · by_cases h1 : cmpL t.key u.key ≠ 0
      · rw [if_pos h1, cmpL_append_ne (by rw [key_len, key_len, hs]) h1]
      · rw [if_neg h1]
        rw [cmpL_eq.1 (Decidable.not_not.1 h1), cmpL_append_self]
    · have h1 : ∀ x y : List Int, cmpL (t.key ++ x) (u.key ++ y) = cmpI t.size u.size := by
        intro x y
        cases t with | node s ts' =>
        cases u with | node v us' =>
        simp only [Tr.key, List.cons_append]
        rw [cmpL_cons, if_pos]
        unfold cmpI
        split
        · decide
        · split
          · decide
          · omega
      have h2 := h1 [] []
      rw [List.append_nil, List.append_nil] at h2
      have h3 : cmpI (t.size : Int) u.size ≠ 0 := by
        unfold cmpI
        split
        · decide
        · split
          · decide
          · omega
      rw [h2, if_pos h3, h1]
end
theorem Tr.cmp_swap (t u : Tr) : Tr.cmp u t = - Tr.cmp t u := by rw [cmp_key, cmp_key]; exact cmpL_swap _ _
theorem Tr.cmp_le_trans {t u v : Tr} (h1 : Tr.cmp t u ≤ 0) (h2 : Tr.cmp u v ≤ 0) : Tr.cmp t v ≤ 0 := by rw [cmp_key] at *; exact cmpL_le_trans h1 h2
theorem Tr.cmp_trans {t u v : Tr} (h1 : Tr.cmp t u < 0) (h2 : Tr.cmp u v < 0) : Tr.cmp t v < 0 := by rw [cmp_key] at *; exact cmpL_trans h1 h2
theorem Tr.cmp_size_lt {t u : Tr} (h : t.size < u.size) : Tr.cmp t u < 0 := by
  cases t with | node s ts =>
  cases u with | node v us =>
  rw [Tr.cmp]
  have : cmpI ((Tr.node s ts).size : Int) (Tr.node v us).size = -1 := by unfold cmpI; rw [if_pos (by omega)]
  rw [if_pos (by rw [this]; decide), this]; decide
theorem Tr.cmp_size_le {t u : Tr} (h : Tr.cmp t u ≤ 0) : t.size ≤ u.size := by
  by_cases h1 : u.size < t.size
  · have := Tr.cmp_size_lt h1
    rw [Tr.cmp_swap] at this; omega
  · omega
mutual
theorem Tr.cmp_eq : ∀ {t u : Tr}, Tr.cmp t u = 0 → t = u
  | .node s ts, .node v us, h => by
    rw [Tr.cmp] at h
    have hz : ∀ a b : Int, cmpI a b = 0 → a = b := fun a b h => by
      unfold cmpI at h
      split at h
      · cases h
      · split at h
        · cases h
        · omega
    split at h
    · rename_i g; exact absurd h g
    · split at h
      · rename_i g; exact absurd h g
      · rename_i g2
        split at h
        · rename_i g; exact absurd h g
        · rename_i g3
          have h2 := hz _ _ (Decidable.not_not.1 g2)
          have h3 := hz _ _ (Decidable.not_not.1 g3)
          rw [h2, Tr.cmps_eq (by omega) h]
theorem Tr.cmps_eq : ∀ {ts us : List Tr}, ts.length = us.length → Tr.cmps ts us = 0 → ts = us
  | [], [], _, _ => rfl
  | [], _ :: _, h, _ => by cases h
  | _ :: _, [], h, _ => by cases h
  | t :: ts, u :: us, hl, h => by
    rw [Tr.cmps] at h
    split at h
    · rename_i g; exact absurd h g
    · rename_i g
      rw [Tr.cmp_eq (Decidable.not_not.1 g), Tr.cmps_eq (by simpa using hl) h]
end
/-- Lists of the same length, each tree at most the other. -/
def leTs : List Tr → List Tr → Prop
  | [], [] => True
  | t :: ts, u :: us => Tr.cmp t u ≤ 0 ∧ leTs ts us
  | _, _ => False
theorem leTs.len : ∀ {ts us : List Tr}, leTs ts us → ts.length = us.length
  | [], [], _ => rfl
  | _ :: _, _ :: _, h => by simp only [List.length_cons]; rw [leTs.len h.2]
  | [], _ :: _, h => h.elim
  | _ :: _, [], h => h.elim
theorem leTs.sizes : ∀ {ts us : List Tr}, leTs ts us → Tr.sizes ts ≤ Tr.sizes us
  | [], [], _ => Nat.le_refl _
  | t :: ts, u :: us, h => by
    have h1 := Tr.cmp_size_le h.1
    have h2 := leTs.sizes h.2
    rw [Tr.sizes, Tr.sizes]; omega
  | [], _ :: _, h => h.elim
  | _ :: _, [], h => h.elim
theorem leTs.cmps : ∀ {ts us : List Tr}, leTs ts us → Tr.cmps ts us ≤ 0
  | [], [], _ => Int.le_refl _
  | t :: ts, u :: us, h => by
    rw [Tr.cmps]
    split
    · exact h.1
    · exact leTs.cmps h.2
  | [], _ :: _, h => h.elim
  | _ :: _, [], h => h.elim
theorem node_le {s : Int} {ts us : List Tr} (h : leTs ts us) : Tr.cmp (.node s ts) (.node s us) ≤ 0 := by
  have h1 := h.sizes
  by_cases h2 : Tr.sizes ts = Tr.sizes us
  · rw [Tr.cmp]
    have e1 : (Tr.node s ts).size = (Tr.node s us).size := by rw [Tr.size, Tr.size, h2]
    rw [e1, h.len, cmpI_self, cmpI_self, cmpI_self]
    simpa using h.cmps
  · exact Int.le_of_lt (Tr.cmp_size_lt (by rw [Tr.size, Tr.size]; omega))
end Pal

/-
  Least trees of states: the passes over all rules, why they end, and what they find. Own work. No statement of the seat is proved here.
-/
namespace Pal
open Go Go.Proofs Go.Proofs.X
abbrev BT := Int → Option Tr
def argsB (b : BT) : List Int → Option (List Tr)
  | [] => some []
  | q :: qs => match b q with
    | none => none
    | some t => (argsB b qs).map (t :: ·)
def candB (b : BT) (r : Rl) : Option Tr := (argsB b r.args).map (Tr.node r.sym)
def betterB (o : Option Tr) (t : Tr) : Bool := match o with
  | none => true
  | some w => decide (Tr.cmp t w < 0)
def updB (b : BT) (q : Int) (t : Tr) : BT := fun p => if p = q then some t else b p
def newB (b : BT) (r : Rl) : Option Tr := match candB b r with
  | none => none
  | some t => if t.size ≤ 4096 ∧ betterB (b r.to) t = true then some t else none
def stepB (b : BT) (r : Rl) : BT := match newB b r with
  | none => b
  | some t => updB b r.to t
def stepP (s : BT × Bool) (r : Rl) : BT × Bool := (stepB s.1 r, s.2 || (newB s.1 r).isSome)
def passB (rs : List Rl) (b : BT) : BT := rs.foldl stepB b
theorem stepP_fst (rs : List Rl) : ∀ s : BT × Bool, (rs.foldl stepP s).1 = passB rs s.1 := by
  induction rs with
  | nil => intro s; rfl
  | cons r rs ih => intro s; exact ih _
theorem stepP_true (rs : List Rl) : ∀ b : BT, (rs.foldl stepP (b, true)).2 = true := by
  induction rs with
  | nil => intro s; rfl
  | cons r rs ih => intro b; exact ih _
theorem stepP_no {rs : List Rl} : ∀ {b : BT}, (rs.foldl stepP (b, false)).2 = false → (∀ r ∈ rs, newB b r = none) ∧ passB rs b = b := by
  induction rs with
  | nil => intro b _; exact ⟨fun r h => (by cases h), rfl⟩
  | cons r rs ih =>
    intro b h
    have e : rs.foldl stepP (stepP (b, false) r) = rs.foldl stepP (stepB b r, (newB b r).isSome) := by unfold stepP; rw [Bool.false_or]
    rw [List.foldl_cons, e] at h
    cases hn : newB b r with
    | some t => rw [hn] at h; rw [show (some t).isSome = true from rfl, stepP_true] at h; cases h
    | none =>
      have hb : stepB b r = b := by unfold stepB; rw [hn]
      rw [hn, hb] at h
      obtain ⟨h1, h2⟩ := ih h
      refine ⟨fun q hq => ?_, ?_⟩
      · rcases List.mem_cons.1 hq with rfl | hq
        · exact hn
        · exact h1 q hq
      · show passB rs (stepB b r) = b
        rw [hb]; exact h2
/-- Derived by the rules, no state twice on a path, and no worse than the best of each state in it. -/
inductive DB (rs : List Rl) (b : BT) : List Int → Tr → Int → Prop
  | mk {X : List Int} {s q : Int} {ts : List Tr} {qs : List Int} (hr : (⟨s, qs, q⟩ : Rl) ∈ rs) (hX : q ∉ X) (hl : ts.length = qs.length) (hk : ∀ i (h : i < ts.length), DB rs b (q :: X) ts[i] (qs.getD i 0))
      (hw : ∃ w, b q = some w ∧ Tr.cmp w (.node s ts) ≤ 0) : DB rs b X (.node s ts) q
def leB (b' b : BT) : Prop := ∀ p w, b p = some w → ∃ w', b' p = some w' ∧ Tr.cmp w' w ≤ 0
theorem DB.mono {rs : List Rl} {b b' : BT} (h : leB b' b) {X : List Int} {t : Tr} {q : Int} (hd : DB rs b X t q) : DB rs b' X t q := by
  induction hd with
  | mk hr hX hl _ hw ih =>
    obtain ⟨w, h1, h2⟩ := hw
    obtain ⟨w', h3, h4⟩ := h _ w h1
    exact .mk hr hX hl ih ⟨w', h3, Tr.cmp_le_trans h4 h2⟩
theorem child_size {s : Int} {ts : List Tr} {i : Nat} (h : i < ts.length) : ts[i].size < (Tr.node s ts).size := by
  have h1 := Tr.sizes_take ts i h
  have h2 := Tr.sizes_take_le ts (i + 1)
  rw [Tr.size]; omega
theorem DB.avoid {rs : List Rl} {b : BT} {p : Int} {X : List Int} {t : Tr} {q : Int} (hd : DB rs b X t q) : (∀ w, b p = some w → t.size < w.size) → DB rs b (X ++ [p]) t q := by
  induction hd with
  | @mk X s q ts qs hr hX hl _ hw ih =>
    intro hp
    refine .mk hr ?_ hl (fun i h => ?_) hw
    · intro hm
      rcases List.mem_append.1 hm with hm | hm
      · exact hX hm
      · obtain rfl := List.mem_singleton.1 hm
        obtain ⟨w, h1, h2⟩ := hw
        have := hp w h1
        have := Tr.cmp_size_le h2
        omega
    · have := ih i h fun w hb => by have := hp w hb; have := child_size (s := s) h; omega
      rwa [List.cons_append] at this
theorem nodup_range {X : List Int} {n : Nat} (hn : X.Nodup) (hx : ∀ x ∈ X, 0 ≤ x ∧ x < (n : Int)) : X.length ≤ n := by
  have h1 : X ⊆ (List.range n).map fun (i : Nat) => (i : Int) := fun x hm => by
    obtain ⟨h1, h2⟩ := hx x hm
    exact List.mem_map.2 ⟨x.toNat, List.mem_range.2 (by omega), by omega⟩
  have h2 := length_le_of_subset hn fun x hx => h1 hx
  simpa using h2
theorem deeps_le {ts : List Tr} {m : Nat} (h : ∀ i (hi : i < ts.length), ts[i].deep ≤ m) : Tr.deeps ts ≤ m := by
  induction ts with
  | nil => exact Nat.zero_le _
  | cons t r ih =>
    rw [Tr.deeps]
    have h0 := h 0 (by simp)
    have h1 := ih fun i hi => by have := h (i + 1) (by simpa using hi); simpa using this
    have h0' : t.deep ≤ m := h0
    omega
theorem DB.deep {rs : List Rl} {b : BT} {n : Nat} (hto : ∀ r ∈ rs, 0 ≤ r.to ∧ r.to < (n : Int)) {X : List Int} {t : Tr} {q : Int} (hd : DB rs b X t q) : X.Nodup → (∀ x ∈ X, 0 ≤ x ∧ x < (n : Int)) → t.deep + X.length ≤ n := by
  induction hd with
  | @mk X s q ts qs hr hX hl _ hw ih =>
    intro hn hx
    have hn' : (q :: X).Nodup := List.nodup_cons.2 ⟨hX, hn⟩
    have hx' : ∀ x ∈ q :: X, 0 ≤ x ∧ x < (n : Int) := fun x hm => by
      rcases List.mem_cons.1 hm with rfl | hm
      · exact hto _ hr
      · exact hx x hm
    have h1 := nodup_range hn' hx'
    simp only [List.length_cons] at h1
    rw [Tr.deep]
    have h2 : Tr.deeps ts ≤ n - (X.length + 1) := deeps_le fun i hi => by
      have := ih i hi hn' hx'
      simp only [List.length_cons] at this
      omega
    omega
theorem DB.valid {a : Au} {rs : List Rl} (hok : AuOk a) (hsub : ∀ r ∈ rs, r ∈ a.rules) {b : BT} {X : List Int} {t : Tr} {q : Int} (hd : DB rs b X t q) : Tr.nodesErr a.ranks t = 0 := by
  induction hd with
  | @mk X s q ts qs hr hX hl _ hw ih =>
    obtain ⟨r1, r2, r3, _⟩ := hok.ru _ (hsub _ hr)
    refine Tr.nodesErr_zero.2 ⟨⟨r1, r2⟩, by rw [hl]; exact r3, fun t ht => ?_⟩
    obtain ⟨i, hi, rfl⟩ := List.getElem_of_mem ht
    exact ih i hi
theorem argsB_some {b : BT} : ∀ {qs : List Int} {ts : List Tr}, argsB b qs = some ts ↔ ts.length = qs.length ∧ ∀ i (h : i < ts.length), b (qs.getD i 0) = some ts[i]
  | [], ts => by
    simp only [argsB, Option.some.injEq]
    constructor
    · rintro rfl; exact ⟨rfl, fun i h => absurd h (Nat.not_lt_zero _)⟩
    · rintro ⟨h, _⟩; exact (List.length_eq_zero_iff.1 h).symm
  | q :: qs, ts => by
    simp only [argsB]
    cases hb : b q with
    | none =>
      constructor
      · intro h; cases h
      · rintro ⟨h1, h2⟩
        have := h2 0 (by rw [h1]; simp)
        simp only [List.getD_cons_zero] at this
        rw [hb] at this; cases this
    | some t =>
      simp only [Option.map_eq_some_iff]
      constructor
      · rintro ⟨us, h1, rfl⟩
        obtain ⟨g1, g2⟩ := argsB_some.1 h1
        refine ⟨by simp [g1], fun i h => ?_⟩
        cases i with
        | zero => exact hb
        | succ i => exact g2 i (by simpa using h)
      · rintro ⟨h1, h2⟩
        cases ts with
        | nil => simp at h1
        | cons u us =>
          have h0 := h2 0 (by simp)
          simp only [List.getD_cons_zero, List.getElem_cons_zero] at h0
          rw [hb] at h0
          cases h0
          exact ⟨us, argsB_some.2 ⟨by simpa using h1, fun i h => h2 (i + 1) (by simpa using h)⟩, rfl⟩
/-- What holds at all times. -/
def InvB (rs : List Rl) (b : BT) : Prop := ∀ q t, b q = some t → DB rs b [] t q ∧ t.size ≤ 4096
theorem InvB.zero (rs : List Rl) : InvB rs fun _ => none := fun _ _ h => by cases h
theorem newB_some {b : BT} {r : Rl} {t : Tr} (h : newB b r = some t) : (∃ ts, argsB b r.args = some ts ∧ t = .node r.sym ts) ∧ t.size ≤ 4096 ∧ betterB (b r.to) t = true := by
  unfold newB at h
  cases hc : candB b r with
  | none => rw [hc] at h; cases h
  | some u =>
    rw [hc] at h
    simp only [] at h
    split at h
    · rename_i g
      cases h
      unfold candB at hc
      obtain ⟨ts, h1, rfl⟩ := Option.map_eq_some_iff.1 hc
      exact ⟨⟨ts, h1, rfl⟩, g⟩
    · cases h
theorem betterB_some {w t : Tr} (h : betterB (some w) t = true) : Tr.cmp t w < 0 := of_decide_eq_true h
theorem updB_le {b : BT} {q : Int} {t : Tr} (h : betterB (b q) t = true) : leB (updB b q t) b := fun p w hp => by
  unfold updB
  by_cases e : p = q
  · subst e
    rw [hp] at h
    exact ⟨t, if_pos rfl, Int.le_of_lt (betterB_some h)⟩
  · exact ⟨w, by rw [if_neg e]; exact hp, by rw [Tr.cmp_self]; exact Int.le_refl _⟩
theorem InvB.step {rs : List Rl} {b : BT} (h : InvB rs b) {r : Rl} (hr : r ∈ rs) : InvB rs (stepB b r) := by
  unfold stepB
  cases hn : newB b r with
  | none => exact h
  | some t =>
    obtain ⟨⟨ts, ha, rfl⟩, hsz, hbt⟩ := newB_some hn
    have hle := updB_le hbt
    show InvB rs (updB b r.to (.node r.sym ts))
    intro q u hq
    by_cases e : q = r.to
    · have hq' : updB b r.to (.node r.sym ts) q = some (.node r.sym ts) := by unfold updB; rw [if_pos e]
      rw [hq'] at hq
      cases hq
      obtain ⟨h1, h2⟩ := argsB_some.1 ha
      refine ⟨?_, hsz⟩
      rw [e]
      refine .mk (qs := r.args) hr (by simp) h1 (fun i hi => ?_) ⟨_, by unfold updB; rw [if_pos rfl], by rw [Tr.cmp_self]; exact Int.le_refl _⟩
      have h3 := (h _ _ (h2 i hi)).1
      refine (h3.avoid (p := r.to) fun w hw => ?_).mono hle
      rw [hw] at hbt
      have := Tr.cmp_size_le (Int.le_of_lt (betterB_some hbt))
      have := child_size (s := r.sym) hi
      omega
    · have hq' : updB b r.to (.node r.sym ts) q = b q := by unfold updB; rw [if_neg e]
      rw [hq'] at hq
      exact ⟨((h q u hq).1).mono hle, (h q u hq).2⟩
theorem InvB.steps {rs : List Rl} : ∀ {xs : List Rl} {b : BT}, InvB rs b → (∀ r ∈ xs, r ∈ rs) → InvB rs (passB xs b)
  | [], _, h, _ => h
  | r :: xs, _, h, hs => InvB.steps (xs := xs) (h.step (hs r List.mem_cons_self)) fun q hq => hs q (List.mem_cons_of_mem _ hq)
theorem InvB.deep {rs : List Rl} {b : BT} (h : InvB rs b) {n : Nat} (hto : ∀ r ∈ rs, 0 ≤ r.to ∧ r.to < (n : Int)) {q : Int} {t : Tr} (hq : b q = some t) : t.deep ≤ n := by
  have := ((h q t hq).1).deep hto List.nodup_nil (fun x hx => by cases hx)
  simpa using this
theorem InvB.to {rs : List Rl} {b : BT} (h : InvB rs b) {n : Nat} (hto : ∀ r ∈ rs, 0 ≤ r.to ∧ r.to < (n : Int)) {q : Int} {t : Tr} (hq : b q = some t) : 0 ≤ q ∧ q < (n : Int) := by
  have := (h q t hq).1
  cases this with | mk hr => exact hto _ hr
theorem newB_deep {rs : List Rl} {b : BT} (h : InvB rs b) {n : Nat} (hto : ∀ r ∈ rs, 0 ≤ r.to ∧ r.to < (n : Int)) {r : Rl} {ts : List Tr} (ha : argsB b r.args = some ts) : (Tr.node r.sym ts).deep ≤ n + 1 := by
  obtain ⟨h1, h2⟩ := argsB_some.1 ha
  rw [Tr.deep]
  have := deeps_le (m := n) fun i hi => h.deep hto (h2 i hi)
  omega
/-! ### The passes end -/
def univ (m : Nat) : Nat → List Tr
  | 0 => []
  | k + 1 => (List.range m).flatMap fun (s : Nat) => (Tr.node (s : Int) [] :: (univ m k).map fun t => Tr.node (s : Int) [t]) ++ (univ m k).flatMap fun t => (univ m k).map fun u => Tr.node (s : Int) [t, u]
theorem mem_univ {a : Au} (hok : AuOk a) : ∀ (k : Nat) (t : Tr), Tr.nodesErr a.ranks t = 0 → t.deep ≤ k → t ∈ univ a.ranks.length k
  | 0, .node s ts, _, h => by rw [Tr.deep] at h; omega
  | k + 1, .node s ts, hv, h => by
    obtain ⟨⟨h0, h1⟩, h2, h3⟩ := Tr.nodesErr_zero.1 hv
    have hs : s.toNat < a.ranks.length := by omega
    have hrk := hok.rk s.toNat hs
    have hge : a.ranks.getD s.toNat 0 = a.ranks[s.toNat] := by simp [List.getD, hs]
    rw [Tr.deep] at h
    rw [univ]
    refine List.mem_flatMap.2 ⟨s.toNat, List.mem_range.2 hs, ?_⟩
    rw [Int.toNat_of_nonneg h0]
    match ts, h2, h3, h with
    | [], _, _, _ => exact List.mem_append_left _ List.mem_cons_self
    | [t], _, h3, h =>
      rw [Tr.deeps, Tr.deeps] at h
      exact List.mem_append_left _ (List.mem_cons_of_mem _ (List.mem_map.2 ⟨t, mem_univ hok k t (h3 t (by simp)) (by omega), rfl⟩))
    | [t, u], _, h3, h =>
      rw [Tr.deeps, Tr.deeps, Tr.deeps] at h
      exact List.mem_append_right _ (List.mem_flatMap.2 ⟨t, mem_univ hok k t (h3 t (by simp)) (by omega), List.mem_map.2 ⟨u, mem_univ hok k u (h3 u (by simp)) (by omega), rfl⟩⟩)
    | t :: u :: v :: r, h2, _, _ => simp only [List.length_cons] at h2; omega
def belowB (U : List Tr) : Option Tr → Nat
  | none => U.length + 1
  | some t => (U.filter fun u => decide (Tr.cmp u t < 0)).length
theorem below_some (U : List Tr) (t : Tr) : belowB U (some t) ≤ U.length := List.length_filter_le _ _
theorem filter_lt {α : Type} {p q : α → Bool} : ∀ {l : List α}, (∀ x ∈ l, p x = true → q x = true) → (∃ x ∈ l, p x = false ∧ q x = true) → (l.filter p).length < (l.filter q).length
  | [], _, ⟨x, h, _⟩ => by cases h
  | y :: l, h, ⟨x, hx, h1, h2⟩ => by
    have hle : ∀ {l : List α}, (∀ x ∈ l, p x = true → q x = true) → (l.filter p).length ≤ (l.filter q).length := by
      intro l
      induction l with
      | nil => intro _; exact Nat.le_refl _
      | cons z l ih =>
        intro hz
        have := ih fun x hx => hz x (List.mem_cons_of_mem _ hx)
        rw [List.filter_cons, List.filter_cons]
        by_cases e : p z = true
        · rw [if_pos e, if_pos (hz z List.mem_cons_self e)]; simpa using this
        · rw [if_neg e]
          split
          · simp only [List.length_cons]; omega
          · exact this
    rw [List.filter_cons, List.filter_cons]
    rcases List.mem_cons.1 hx with rfl | hx
    · rw [if_neg (by rw [h1]; decide), if_pos h2, List.length_cons]
      exact Nat.lt_succ_of_le (hle fun z hz => h z (List.mem_cons_of_mem _ hz))
    · have := filter_lt (fun z hz => h z (List.mem_cons_of_mem _ hz)) ⟨x, hx, h1, h2⟩
      by_cases e : p y = true
      · rw [if_pos e, if_pos (h y List.mem_cons_self e)]; simpa using this
      · rw [if_neg e]
        split
        · simp only [List.length_cons]; omega
        · exact this
theorem below_lt {U : List Tr} {o : Option Tr} {t : Tr} (hU : t ∈ U) (hb : betterB o t = true) : belowB U (some t) < belowB U o := by
  cases o with
  | none => exact Nat.lt_succ_of_le (below_some U t)
  | some w =>
    have hw := betterB_some hb
    refine filter_lt (fun x _ hx => ?_) ⟨t, hU, by rw [Tr.cmp_self]; rfl, decide_eq_true hw⟩
    exact decide_eq_true (Tr.cmp_trans (of_decide_eq_true hx) hw)
def muB (U : List Tr) (n : Nat) (b : BT) : Nat := ((List.range n).map fun (s : Nat) => belowB U (b (s : Int))).sum
theorem sum_lt {α : Type} {f g : α → Nat} : ∀ {l : List α}, (∀ x ∈ l, f x ≤ g x) → (∃ x ∈ l, f x < g x) → (l.map f).sum < (l.map g).sum
  | [], _, ⟨x, h, _⟩ => by cases h
  | y :: l, h, ⟨x, hx, h1⟩ => by
    have hle : ∀ {l : List α}, (∀ x ∈ l, f x ≤ g x) → (l.map f).sum ≤ (l.map g).sum := by
      intro l
      induction l with
      | nil => intro _; exact Nat.le_refl _
      | cons z l ih =>
        intro hz
        have h1 := ih fun x hx => hz x (List.mem_cons_of_mem _ hx)
        have h2 := hz z List.mem_cons_self
        simp only [List.map_cons, List.sum_cons]; omega
    simp only [List.map_cons, List.sum_cons]
    rcases List.mem_cons.1 hx with rfl | hx
    · have := hle fun z hz => h z (List.mem_cons_of_mem _ hz); omega
    · have := sum_lt (fun z hz => h z (List.mem_cons_of_mem _ hz)) ⟨x, hx, h1⟩
      have := h y List.mem_cons_self; omega
theorem mu_step {a : Au} (hok : AuOk a) {b : BT} (h : InvB a.rules b) {r : Rl} (hr : r ∈ a.rules) : muB (univ a.ranks.length (a.states.toNat + 1)) a.states.toNat (stepB b r) + (if (newB b r).isSome = true then 1 else 0) ≤ muB (univ a.ranks.length (a.states.toNat + 1)) a.states.toNat b := by
  unfold stepB
  cases hn : newB b r with
  | none => exact Nat.le_refl _
  | some t =>
    obtain ⟨⟨ts, ha, rfl⟩, hsz, hbt⟩ := newB_some hn
    have hto : ∀ r ∈ a.rules, 0 ≤ r.to ∧ r.to < (a.states.toNat : Int) := fun r hr => by
      have := (hok.ru r hr).2.2.2.2
      have := hok.st
      omega
    have hv : Tr.nodesErr a.ranks (.node r.sym ts) = 0 := by
      obtain ⟨r1, r2, r3, _⟩ := hok.ru r hr
      obtain ⟨h1, h2⟩ := argsB_some.1 ha
      refine Tr.nodesErr_zero.2 ⟨⟨r1, r2⟩, by rw [h1]; exact r3, fun t ht => ?_⟩
      obtain ⟨i, hi, rfl⟩ := List.getElem_of_mem ht
      exact ((h _ _ (h2 i hi)).1).valid hok fun _ h => h
    have hU := mem_univ hok _ _ hv (newB_deep h hto ha)
    have hrto := hto r hr
    have hlt := below_lt hU hbt
    show muB _ _ (updB b r.to _) + 1 ≤ _
    refine sum_lt (fun s _ => ?_) ⟨r.to.toNat, List.mem_range.2 (by omega), ?_⟩
    · unfold updB
      by_cases e : (s : Int) = r.to
      · rw [if_pos e, e]; exact Nat.le_of_lt hlt
      · rw [if_neg e]; exact Nat.le_refl _
    · unfold updB
      rw [Int.toNat_of_nonneg hrto.1, if_pos rfl]; exact hlt
end Pal

/-
  Least trees: the passes' result is one alone, and no derived tree is smaller. Own work. No statement of the seat is proved here.
-/
namespace Pal
open Go Go.Proofs Go.Proofs.X
def chainB (rs : List Rl) : Nat → BT
  | 0 => fun _ => none
  | n + 1 => passB rs (chainB rs n)
/-- What the passes end with. -/
structure Best (rs : List Rl) (b : BT) : Prop where
  ch : ∃ n, b = chainB rs n
  no : ∀ r ∈ rs, newB b r = none
  fx : passB rs b = b
theorem chain_inv (rs : List Rl) : ∀ n, InvB rs (chainB rs n)
  | 0 => InvB.zero rs
  | n + 1 => (chain_inv rs n).steps fun _ h => h
theorem Best.inv {rs : List Rl} {b : BT} (h : Best rs b) : InvB rs b := by
  obtain ⟨n, rfl⟩ := h.ch
  exact chain_inv rs n
theorem chain_stay {rs : List Rl} {n : Nat} (h : passB rs (chainB rs n) = chainB rs n) : ∀ k, chainB rs (n + k) = chainB rs n
  | 0 => rfl
  | k + 1 => by
    show passB rs (chainB rs (n + k)) = _
    rw [chain_stay h k, h]
theorem Best.uniq {rs : List Rl} {b b' : BT} (h : Best rs b) (h' : Best rs b') : b = b' := by
  obtain ⟨n, rfl⟩ := h.ch
  obtain ⟨m, rfl⟩ := h'.ch
  rcases Nat.le_total n m with hle | hle
  · obtain ⟨k, rfl⟩ := Nat.exists_eq_add_of_le hle
    exact (chain_stay h.fx k).symm
  · obtain ⟨k, rfl⟩ := Nat.exists_eq_add_of_le hle
    exact chain_stay h'.fx k
mutual
theorem size_deep {rk : List Int} (hrk : ∀ x ∈ rk, x ≤ 2) : ∀ t : Tr, Tr.nodesErr rk t = 0 → t.size + 1 ≤ 2 ^ t.deep
  | .node s ts, h => by
    obtain ⟨h0, h1, h2⟩ := Tr.nodesErr_zero.1 h
    have hs : s.toNat < rk.length := by omega
    have hg : rk.getD s.toNat 0 = rk[s.toNat] := by simp [List.getD, hs]
    have hle := hrk _ (List.getElem_mem hs)
    rw [Tr.size, Tr.deep, Nat.pow_succ]
    have hp : 1 ≤ 2 ^ Tr.deeps ts := Nat.one_le_two_pow
    have := sizes_deep hrk ts h2
    have hl : ts.length ≤ 2 := by omega
    match ts, hl with
    | [], _ => simp [Tr.sizes, Tr.deeps]
    | [t], _ =>
      simp only [List.length_cons, List.length_nil] at this
      omega
    | [t, u], _ =>
      simp only [List.length_cons, List.length_nil] at this
      omega
    | _ :: _ :: _ :: _, hl => simp only [List.length_cons] at hl; omega
theorem sizes_deep {rk : List Int} (hrk : ∀ x ∈ rk, x ≤ 2) : ∀ ts : List Tr, (∀ t ∈ ts, Tr.nodesErr rk t = 0) → Tr.sizes ts + ts.length ≤ ts.length * 2 ^ Tr.deeps ts
  | [], _ => by simp [Tr.sizes]
  | t :: ts, h => by
    have h1 := size_deep hrk t (h t List.mem_cons_self)
    have h2 := sizes_deep hrk ts fun u hu => h u (List.mem_cons_of_mem _ hu)
    rw [Tr.sizes, Tr.deeps, List.length_cons]
    have h3 : 2 ^ t.deep ≤ 2 ^ max t.deep (Tr.deeps ts) := Nat.pow_le_pow_right (by decide) (Nat.le_max_left _ _)
    have h4 : ts.length * 2 ^ Tr.deeps ts ≤ ts.length * 2 ^ max t.deep (Tr.deeps ts) := Nat.mul_le_mul_left _ (Nat.pow_le_pow_right (by decide) (Nat.le_max_right _ _))
    rw [Nat.succ_mul]
    omega
end
theorem Best.small {a : Au} (hok : AuOk a) (h6 : a.states ≤ 10) {b : BT} (h : InvB a.rules b) {q : Int} {t : Tr} (hq : b q = some t) : t.deep ≤ 10 ∧ t.size < 1024 := by
  have hto : ∀ r ∈ a.rules, 0 ≤ r.to ∧ r.to < (a.states.toNat : Int) := fun r hr => by
    have := (hok.ru r hr).2.2.2.2
    have := hok.st
    omega
  have hd := h.deep hto hq
  have hd' : t.deep ≤ 10 := by have := hok.st; omega
  have hv := ((h q t hq).1).valid hok fun _ h => h
  have := size_deep (fun x hx => by obtain ⟨i, hi, rfl⟩ := List.getElem_of_mem hx; exact (hok.rk i hi).2) t hv
  have h2 : 2 ^ t.deep ≤ 2 ^ 10 := Nat.pow_le_pow_right (by decide) hd'
  have h3 : 2 ^ 10 = 1024 := by decide
  exact ⟨hd', by omega⟩
/-! ### None is smaller -/
mutual
theorem best_le {a : Au} (hok : AuOk a) (h6 : a.states ≤ 10) {b : BT} (h : Best a.rules b) : ∀ (t : Tr) (q : Int), 0 < t.cnt a.rules q → ∃ w, b q = some w ∧ Tr.cmp w t ≤ 0
  | .node s ts, q, hc => by
    obtain ⟨r, hr, rfl, rfl, h3⟩ := Tr.cnt_pos.1 hc
    obtain ⟨us, hu, hle⟩ := bests_le hok h6 h ts r.args h3
    have hn := h.no r hr
    unfold newB candB at hn
    rw [hu] at hn
    simp only [Option.map_some] at hn
    have hsz : (Tr.node r.sym us).size ≤ 4096 := by
      obtain ⟨h1, h2⟩ := argsB_some.1 hu
      have hl := hok.ru r hr
      have h4 : us.length ≤ 2 := by
        have h5 := hok.rk r.sym.toNat (by omega)
        have h6 : a.ranks.getD r.sym.toNat 0 = a.ranks[r.sym.toNat]'(by omega) := by simp [List.getD, show r.sym.toNat < a.ranks.length by omega]
        have := hl.2.2.1
        omega
      have key : ∀ xs : List Tr, (∀ i (hi : i < xs.length), xs[i].size < 1024) → Tr.sizes xs ≤ xs.length * 1024 := by
        intro xs
        induction xs with
        | nil => intro _; exact Nat.zero_le _
        | cons x xs ih =>
          intro hx
          have a1 := hx 0 (by simp)
          have a2 := ih fun i hi => by have := hx (i + 1) (by simpa using hi); simpa using this
          have a3 : x.size < 1024 := a1
          rw [Tr.sizes, List.length_cons]; omega
      have := key us fun i hi => (Best.small hok h6 h.inv (h2 i hi)).2
      rw [Tr.size]; omega
    cases hb : b r.to with
    | none => rw [hb] at hn; rw [if_pos ⟨hsz, rfl⟩] at hn; cases hn
    | some w =>
      rw [hb] at hn
      have hcm : ¬ Tr.cmp (.node r.sym us) w < 0 := fun hlt => by
        rw [if_pos ⟨hsz, decide_eq_true hlt⟩] at hn; cases hn
      refine ⟨w, rfl, Tr.cmp_le_trans ?_ (node_le hle)⟩
      rw [Tr.cmp_swap]; omega
theorem bests_le {a : Au} (hok : AuOk a) (h6 : a.states ≤ 10) {b : BT} (h : Best a.rules b) : ∀ (ts : List Tr) (qs : List Int), 0 < Tr.cnts a.rules ts qs → ∃ us, argsB b qs = some us ∧ leTs us ts
  | [], [], _ => ⟨[], rfl, trivial⟩
  | [], _ :: _, hc => by simp [Tr.cnts] at hc
  | _ :: _, [], hc => by simp [Tr.cnts] at hc
  | t :: ts, q :: qs, hc => by
    obtain ⟨h1, h2⟩ := Tr.cnts_pos.1 hc
    obtain ⟨w, hw, hle⟩ := best_le hok h6 h t q h1
    obtain ⟨us, hu, hles⟩ := bests_le hok h6 h ts qs h2
    exact ⟨w :: us, by simp only [argsB, hw, hu, Option.map_some], hle, hles⟩
end
theorem DB.cnt {rs : List Rl} {b : BT} {X : List Int} {t : Tr} {q : Int} (hd : DB rs b X t q) : 0 < t.cnt rs q := by
  induction hd with
  | @mk X s q ts qs hr hX hl _ hw ih =>
    refine Tr.cnt_pos.2 ⟨_, hr, rfl, rfl, ?_⟩
    have key : ∀ (ts : List Tr) (qs : List Int), ts.length = qs.length → (∀ i (h : i < ts.length), 0 < ts[i].cnt rs (qs.getD i 0)) → 0 < Tr.cnts rs ts qs := by
      intro ts
      induction ts with
      | nil => intro qs hq _; cases qs with | nil => simp [Tr.cnts] | cons _ _ => cases hq
      | cons t ts ih2 =>
        intro qs hq hh
        cases qs with
        | nil => cases hq
        | cons p qs => exact Tr.cnts_pos.2 ⟨hh 0 (by simp), ih2 qs (by simpa using hq) fun i hi => hh (i + 1) (by simpa using hi)⟩
    exact key ts qs hl ih
/-- The best of some states. -/
def LeastOf (b : BT) (F : Int → Prop) : Option Tr → Prop
  | none => ∀ q, F q → b q = none
  | some t => (∃ q, F q ∧ b q = some t) ∧ ∀ q u, F q → b q = some u → Tr.cmp t u ≤ 0
theorem LeastOf.uniq {b : BT} {F : Int → Prop} : ∀ {o o' : Option Tr}, LeastOf b F o → LeastOf b F o' → o = o'
  | none, none, _, _ => rfl
  | none, some t, h, ⟨⟨q, h1, h2⟩, _⟩ => by rw [h q h1] at h2; cases h2
  | some t, none, ⟨⟨q, h1, h2⟩, _⟩, h => by rw [h q h1] at h2; cases h2
  | some t, some u, ⟨⟨q, h1, h2⟩, h3⟩, ⟨⟨p, g1, g2⟩, g3⟩ => by
    have e1 := h3 p u g1 g2
    have e2 := g3 q t h1 h2
    rw [Tr.cmp_swap] at e2
    rw [Tr.cmp_eq (t := t) (u := u) (by omega)]
end Pal

/-
  Trimming: the states that come about and lead on, the automaton that is left, and its runs. Plain Lean, no program. Own work.
-/
namespace Pal
open Go Go.Proofs Go.Proofs.X
/-! ### Marks -/
def onL (m : List Bool) (q : Int) : Bool := m.getD q.toNat false
theorem onL_get {m : List Bool} {q : Int} {k : Nat} (hk : q.toNat = k) (h : k < m.length) : onL m q = m[k] := by
  unfold onL; rw [hk]; simp [List.getD, h]
/-- The same, or more marks. -/
structure Up (m m' : List Bool) : Prop where
  len : m'.length = m.length
  le : ∀ q, onL m q = true → onL m' q = true
  cnt : m' = m ∨ m.count true < m'.count true
theorem Up.refl (m : List Bool) : Up m m := ⟨rfl, fun _ h => h, .inl rfl⟩
theorem Up.trans {m m' m'' : List Bool} (h : Up m m') (h' : Up m' m'') : Up m m'' := by
  refine ⟨h'.len.trans h.len, fun q hq => h'.le q (h.le q hq), ?_⟩
  rcases h.cnt with rfl | h1
  · exact h'.cnt
  · rcases h'.cnt with rfl | h2
    · exact .inr h1
    · exact .inr (by omega)
theorem Up.back {m m' m'' : List Bool} (h : Up m m') (h' : Up m' m'') (e : m'' = m) : m' = m := by
  subst e
  rcases h.cnt with h1 | h1
  · exact h1
  · rcases h'.cnt with h2 | h2
    · exact h2.symm
    · omega
theorem up_set (m : List Bool) (i : Nat) : Up m (m.set i true) := by
  refine ⟨List.length_set, fun q hq => ?_, ?_⟩
  · unfold onL at *
    by_cases h : i = q.toNat
    · subst h
      by_cases h2 : q.toNat < m.length
      · simp [List.getD, h2]
      · simp [List.getD, h2] at hq
    · simpa [List.getD, List.getElem?_set_ne h] using hq
  · by_cases h : i < m.length
    · by_cases hb : m[i] = true
      · exact .inl (by rw [← hb]; exact List.set_getElem_self h)
      · refine .inr ?_
        have hb2 : m[i] = false := by simpa using hb
        have e1 : m = m.take i ++ false :: m.drop (i + 1) := by
          conv => lhs; rw [← List.take_append_drop i m, List.drop_eq_getElem_cons h, hb2]
        have e2 : m.set i true = m.take i ++ true :: m.drop (i + 1) := by
          rw [List.set_eq_take_append_cons_drop, if_pos h]
        rw [e2]
        conv => lhs; rw [e1]
        rw [List.count_append, List.count_append, List.count_cons, List.count_cons]
        simp
    · exact .inl (List.set_eq_of_length_le (by omega))
theorem set_on {m : List Bool} {i : Nat} (h : i < m.length) {q : Int} (hq : q.toNat = i) : onL (m.set i true) q = true := by
  unfold onL; rw [hq]; simp [List.getD, h]
theorem up_fold {α : Type} {S : List Bool → α → List Bool} (h : ∀ m r, Up m (S m r)) : ∀ (rs : List α) (m : List Bool), Up m (rs.foldl S m)
  | [], m => Up.refl m
  | r :: rs, m => (h m r).trans (up_fold h rs (S m r))
theorem fold_more {α : Type} {S : List Bool → α → List Bool} (h : ∀ m r, Up m (S m r)) {rs : List α} {m : List Bool} {j : Nat} (hj : j < rs.length) :
    decide ((rs.take (j + 1)).foldl S m ≠ m) = (decide (S ((rs.take j).foldl S m) rs[j] ≠ (rs.take j).foldl S m) || decide ((rs.take j).foldl S m ≠ m)) := by
  rw [List.take_succ_eq_append_getElem hj, List.foldl_append]
  show decide (S ((rs.take j).foldl S m) rs[j] ≠ m) = _
  generalize hx : (rs.take j).foldl S m = x
  have h1 : Up m x := hx ▸ up_fold h _ m
  have h2 := h x rs[j]
  rw [← Bool.decide_or]
  refine decide_eq_decide.2 ⟨fun h3 => ?_, fun h3 h4 => ?_⟩
  · by_cases e : x = m
    · left; rw [e] at h3 ⊢; exact h3
    · exact .inr e
  · have e := h1.back h2 h4
    rcases h3 with h3 | h3
    · exact h3 (h4.trans e.symm)
    · exact h3 e
def iterF {α : Type} (F : α → α) : Nat → α → α
  | 0, x => x
  | n + 1, x => F (iterF F n x)
theorem iterF_shift {α : Type} (F : α → α) : ∀ n x, iterF F n (F x) = F (iterF F n x)
  | 0, _ => rfl
  | n + 1, x => congrArg F (iterF_shift F n x)
theorem iterF_fix {α : Type} {F : α → α} {x : α} (h : F x = x) : ∀ n, iterF F n x = x
  | 0 => rfl
  | n + 1 => (congrArg F (iterF_fix h n)).trans h
theorem iterF_add {α : Type} (F : α → α) (k : Nat) (x : α) : ∀ n, iterF F (n + k) x = iterF F n (iterF F k x)
  | 0 => by rw [Nat.zero_add]; rfl
  | n + 1 => by rw [Nat.add_right_comm]; exact congrArg F (iterF_add F k x n)
theorem up_iter {F : List Bool → List Bool} (h : ∀ m, Up m (F m)) (m : List Bool) : ∀ n, Up m (iterF F n m)
  | 0 => Up.refl m
  | n + 1 => (up_iter h m n).trans (h _)
theorem iter_stop {F : List Bool → List Bool} (h : ∀ m, Up m (F m)) : ∀ n m, m.length - m.count true ≤ n → F (iterF F n m) = iterF F n m
  | 0, m, hn => by
    show F m = m
    rcases (h m).cnt with e | e
    · exact e
    · have h1 := List.count_le_length (a := true) (l := F m)
      have h2 := (h m).len
      omega
  | n + 1, m, hn => by
    rcases (h m).cnt with e | e
    · rw [iterF_fix e]; exact e
    · have h1 := List.count_le_length (a := true) (l := F m)
      have h2 := (h m).len
      have h3 := iter_stop h n (F m) (by omega)
      rw [iterF_shift] at h3
      exact h3
theorem iter_same {F : List Bool → List Bool} {m : List Bool} {k n : Nat} (hk : F (iterF F k m) = iterF F k m) (hn : F (iterF F n m) = iterF F n m) : iterF F k m = iterF F n m := by
  rcases Nat.le_total k n with h | h
  · have e := iterF_add F k m (n - k)
    rw [Nat.sub_add_cancel h, iterF_fix hk] at e
    exact e.symm
  · have e := iterF_add F n m (k - n)
    rw [Nat.sub_add_cancel h, iterF_fix hn] at e
    exact e
/-! ### Coming about and leading on -/
def comeS (m : List Bool) (r : Rl) : List Bool := if r.args.all (onL m) = true then m.set r.to.toNat true else m
def leadS (c m : List Bool) (r : Rl) : List Bool := if onL m r.to = true ∧ r.args.all (onL c) = true then r.args.foldl (fun m q => m.set q.toNat true) m else m
theorem up_comeS (m : List Bool) (r : Rl) : Up m (comeS m r) := by
  unfold comeS; split
  · exact up_set _ _
  · exact Up.refl _
theorem up_sets (qs : List Int) (m : List Bool) : Up m (qs.foldl (fun m (q : Int) => m.set q.toNat true) m) := up_fold (fun m q => up_set m _) qs m
theorem up_leadS (c m : List Bool) (r : Rl) : Up m (leadS c m r) := by
  unfold leadS; split
  · exact up_sets _ _
  · exact Up.refl _
def comeF (rs : List Rl) (m : List Bool) : List Bool := rs.foldl comeS m
def leadF (c : List Bool) (rs : List Rl) (m : List Bool) : List Bool := rs.foldl (leadS c) m
theorem up_comeF (rs : List Rl) (m : List Bool) : Up m (comeF rs m) := up_fold up_comeS rs m
theorem up_leadF (c : List Bool) (rs : List Rl) (m : List Bool) : Up m (leadF c rs m) := up_fold (up_leadS c) rs m
def noneL (n : Nat) : List Bool := List.replicate n false
def finL (F : List Int) (n : Nat) : List Bool := F.foldl (fun m (q : Int) => m.set q.toNat true) (noneL n)
def comeA (a : Au) : List Bool := iterF (comeF a.rules) (a.states.toNat + 1) (noneL a.states.toNat)
def leadA (a : Au) : List Bool := iterF (leadF (comeA a) a.rules) (a.states.toNat + 1) (finL a.final a.states.toNat)
theorem comeA_len (a : Au) : (comeA a).length = a.states.toNat := (up_iter (up_comeF a.rules) _ _).len.trans (List.length_replicate ..)
theorem finL_len (F : List Int) (n : Nat) : (finL F n).length = n := (up_sets F _).len.trans (List.length_replicate ..)
theorem leadA_len (a : Au) : (leadA a).length = a.states.toNat := (up_iter (up_leadF _ a.rules) _ _).len.trans (finL_len _ _)
theorem comeA_fix (a : Au) : comeF a.rules (comeA a) = comeA a := iter_stop (up_comeF a.rules) _ _ (by rw [noneL, List.length_replicate]; omega)
theorem leadA_fix (a : Au) : leadF (comeA a) a.rules (leadA a) = leadA a := iter_stop (up_leadF _ a.rules) _ _ (by rw [finL_len]; omega)
/-- What a search finds that stops when nothing changes. -/
theorem comeA_is {a : Au} {k : Nat} (h : comeF a.rules (iterF (comeF a.rules) k (noneL a.states.toNat)) = iterF (comeF a.rules) k (noneL a.states.toNat)) : iterF (comeF a.rules) k (noneL a.states.toNat) = comeA a := iter_same h (comeA_fix a)
theorem leadA_is {a : Au} {k : Nat} (h : leadF (comeA a) a.rules (iterF (leadF (comeA a) a.rules) k (finL a.final a.states.toNat)) = iterF (leadF (comeA a) a.rules) k (finL a.final a.states.toNat)) : iterF (leadF (comeA a) a.rules) k (finL a.final a.states.toNat) = leadA a := iter_same h (leadA_fix a)
def stayA (a : Au) (q : Int) : Bool := onL (comeA a) q && onL (leadA a) q
def cntN (a : Au) (s : Nat) : Nat := ((List.range s).filter fun (x : Nat) => stayA a (x : Int)).length
theorem cntN_succ (a : Au) (s : Nat) : cntN a (s + 1) = cntN a s + if stayA a (s : Int) = true then 1 else 0 := by
  unfold cntN
  rw [List.range_succ, List.filter_append, List.length_append]
  by_cases h : stayA a (s : Int) = true
  · rw [if_pos h, List.filter_cons, h]; rfl
  · rw [if_neg h, List.filter_cons, Bool.not_eq_true _ |>.mp h]; rfl
theorem cntN_mono (a : Au) {x y : Nat} (h : x ≤ y) : cntN a x ≤ cntN a y := by
  induction y with
  | zero => rw [Nat.le_zero.1 h]; exact Nat.le_refl _
  | succ y ih =>
    by_cases e : x = y + 1
    · rw [e]; exact Nat.le_refl _
    · have := ih (by omega)
      have := cntN_succ a y
      omega
theorem cntN_lt (a : Au) {x y : Nat} (h : x < y) (hx : stayA a (x : Int) = true) : cntN a x < cntN a y := by
  have h1 := cntN_mono a (show x + 1 ≤ y from h)
  rw [cntN_succ, if_pos hx] at h1
  omega
theorem cntN_le (a : Au) (s : Nat) : cntN a s ≤ s := by
  unfold cntN; exact Nat.le_trans (List.length_filter_le _ _) (by simp)
def newA (a : Au) (q : Int) : Int := (cntN a q.toNat : Nat)
def keepR (a : Au) (r : Rl) : Bool := stayA a r.to && r.args.all (stayA a)
def newR (a : Au) (r : Rl) : Rl := ⟨r.sym, r.args.map (newA a), newA a r.to⟩
def leftR (a : Au) (rs : List Rl) : List Rl := (rs.filter (keepR a)).map (newR a)
def leftF (a : Au) (F : List Int) : List Int := (F.filter (stayA a)).map (newA a)
def trimA (a : Au) : Au := ⟨a.ranks, (cntN a a.states.toNat : Nat), leftR a a.rules, leftF a a.final⟩
theorem keepR_iff {a : Au} {r : Rl} : keepR a r = true ↔ stayA a r.to = true ∧ ∀ q ∈ r.args, stayA a q = true := by
  unfold keepR; rw [Bool.and_eq_true, List.all_eq_true]
theorem newA_bound {a : Au} {q : Int} (h : stayA a q = true) (h0 : 0 ≤ q ∧ q < a.states) : 0 ≤ newA a q ∧ newA a q < (cntN a a.states.toNat : Nat) := by
  have := cntN_lt a (x := q.toNat) (y := a.states.toNat) (by omega) (by rw [Int.toNat_of_nonneg h0.1]; exact h)
  unfold newA; omega
theorem trimA_ok {a : Au} (ha : AuOk a) : AuOk (trimA a) := by
  have hs := ha.st
  refine ⟨ha.rl, ha.rk, ⟨by show (0 : Int) ≤ (cntN a a.states.toNat : Nat); omega, by have := cntN_le a a.states.toNat; show ((cntN a a.states.toNat : Nat) : Int) ≤ 256; omega⟩, ?_, fun r hr => ?_, fun q hq => ?_⟩
  · show (leftR a a.rules).length ≤ _
    unfold leftR; rw [List.length_map]
    exact Nat.le_trans (List.length_filter_le _ _) ha.ul
  · obtain ⟨x, hx, rfl⟩ := List.mem_map.1 hr
    obtain ⟨hx, hk⟩ := List.mem_filter.1 hx
    obtain ⟨k1, k2, k3, k4, k5, k6⟩ := ha.ru x hx
    obtain ⟨g1, g2⟩ := keepR_iff.1 hk
    have h5 := newA_bound g1 ⟨k5, k6⟩
    refine ⟨k1, k2, by show ((x.args.map (newA a)).length : Int) = _; rw [List.length_map]; exact k3, fun q hq => ?_, h5.1, h5.2⟩
    obtain ⟨y, hy, rfl⟩ := List.mem_map.1 hq
    exact newA_bound (g2 y hy) (k4 y hy)
  · obtain ⟨x, hx, rfl⟩ := List.mem_map.1 hq
    obtain ⟨hx, hk⟩ := List.mem_filter.1 hx
    exact newA_bound hk (ha.fi x hx)
end Pal

/-
  Marks and numbers in a block, asx a walk over Trim meets them. Own work. No statement of the seat is proved here.
-/
namespace Pal
open Go Go.Proofs Go.Proofs.X
def mkL (m : List Bool) : Array Value := (m.map Value.bool).toArray
theorem mkL_size (m : List Bool) : (mkL m).size = m.length := by simp [mkL]
theorem mkL_get {m : List Bool} {q : Int} {off : Nat} (h : q.toNat < m.length) (ho : off = q.toNat) : (mkL m)[off]? = some (.bool (onL m q)) := by
  subst ho
  rw [onL_get rfl h]
  simp [mkL, h]
theorem mkL_put {m : List Bool} {q : Int} {off : Nat} (h : q.toNat < m.length) (ho : off = q.toNat) : putCells (mkL m) off (Value.bool true).cells.toList = mkL (m.set q.toNat true) := by
  subst ho
  have e : putCells (mkL m) q.toNat (Value.bool true).cells.toList = (mkL m).setIfInBounds q.toNat (.bool true) := putCells_one (by rw [mkL_size]; exact h)
  rw [e]
  simp [mkL, List.map_set]
theorem mkL_made (n : Nat) : madeCells #[.bool false] (n * 1) = mkL (noneL n) := by
  rw [made_one]; simp [mkL, noneL]
theorem At.mark {H : View} {b : Nat} {m : List Bool} {q : Int} (h : At H b 0 (mkL m).toList) (hq : q.toNat < m.length) : At H b (0 + q.toNat * 1) [.bool (onL m q)] := by
  rw [Nat.mul_one]
  exact h.one (by rw [Array.getElem?_toList]; exact mkL_get hq rfl)
theorem At.markN {H : View} {b : Nat} {m : List Bool} {s : Nat} (h : At H b 0 (mkL m).toList) (hq : s < m.length) : At H b (0 + s * 1) [.bool (onL m (s : Int))] := h.mark (q := (s : Int)) (by simpa using hq)
def fnC (n : Nat) (f : Nat → Int) : Array Value := ((List.range n).map fun (x : Nat) => Value.int .i64 (f x)).toArray
theorem fnC_size (n : Nat) (f : Nat → Int) : (fnC n f).size = n := by simp [fnC]
theorem fnC_get {n off : Nat} {f : Nat → Int} (h : off < n) : (fnC n f)[off]? = some (.int .i64 (f off)) := by simp [fnC, h]
theorem fnC_put {n off s : Nat} {f g : Nat → Int} {v : Int} (h : s < n) (ho : off = s) (hg : ∀ x, g x = if x = s then v else f x) : putCells (fnC n f) off (Value.int .i64 v).cells.toList = fnC n g := by
  subst ho
  have e : putCells (fnC n f) off (Value.int .i64 v).cells.toList = (fnC n f).setIfInBounds off (.int .i64 v) := putCells_one (by rw [fnC_size]; exact h)
  rw [e]
  apply Array.ext
  · simp [fnC]
  · intro i h1 h2
    have hi : i < n := by rw [fnC_size] at h2; exact h2
    rw [Array.getElem_setIfInBounds (by rw [fnC_size]; exact hi)]
    simp only [fnC, List.getElem_toArray, List.getElem_map, List.getElem_range]
    rw [hg i]
    by_cases e : off = i
    · subst e; simp
    · rw [if_neg e, if_neg (fun h => e h.symm)]
theorem fnC_made (n : Nat) : madeCells #[.int .i64 0] (n * 1) = fnC n (fun _ => 0) := by
  rw [made_one]
  unfold fnC
  congr 1
  refine List.ext_getElem (by simp) fun i h1 h2 => by simp
theorem At.fn {H : View} {b n : Nat} {f : Nat → Int} {q : Int} (h : At H b 0 (fnC n f).toList) (hq : q.toNat < n) : At H b (0 + q.toNat * 1) [.int .i64 (f q.toNat)] := by
  rw [Nat.mul_one]
  exact h.one (by rw [Array.getElem?_toList]; exact fnC_get hq)
def newV (a : Au) (x : Nat) : Int := if stayA a (x : Int) = true then (cntN a x : Nat) else -1
def toF (a : Au) (s : Nat) (x : Nat) : Int := if x < s then newV a x else 0
def toG (a : Au) (s : Nat) (x : Nat) : Int := if x = s then -1 else toF a s x
theorem toF_zero (a : Au) : toF a 0 = fun _ => 0 := by funext x; simp [toF]
theorem toG_is (a : Au) (s x : Nat) : toG a s x = if x = s then -1 else toF a s x := rfl
theorem toF_stay {a : Au} {s : Nat} (h : stayA a (s : Int) = true) (x : Nat) : toF a (s + 1) x = if x = s then ((cntN a s : Nat) : Int) else toG a s x := by
  unfold toF toG toF
  by_cases e : x = s
  · subst e; rw [if_pos (by omega), if_pos rfl]; unfold newV; rw [if_pos h]
  · rw [if_neg e, if_neg e]
    by_cases h2 : x < s
    · rw [if_pos (by omega), if_pos h2]
    · rw [if_neg (by omega), if_neg h2]
theorem toF_gone {a : Au} {s : Nat} (h : stayA a (s : Int) = false) : toG a s = toF a (s + 1) := by
  funext x
  unfold toG toF
  by_cases e : x = s
  · subst e; rw [if_pos rfl, if_pos (by omega)]; unfold newV; rw [if_neg (by rw [h]; decide)]
  · rw [if_neg e]
    by_cases h2 : x < s
    · rw [if_pos h2, if_pos (by omega)]
    · rw [if_neg h2, if_neg (by omega)]
theorem toF_full {a : Au} {n x : Nat} (h : x < n) : toF a n x = newV a x := by unfold toF; rw [if_pos h]
theorem newV_neg {a : Au} {x : Nat} : newV a x < 0 ↔ stayA a (x : Int) = false := by
  unfold newV
  by_cases h : stayA a (x : Int) = true
  · rw [if_pos h, h]; simp
  · rw [if_neg h, Bool.not_eq_true _ |>.mp h]; simp
theorem newV_new {a : Au} {q : Int} (h : stayA a q = true) (h0 : 0 ≤ q) : newV a q.toNat = newA a q := by
  unfold newV newA
  rw [Int.toNat_of_nonneg h0, if_pos h]
theorem set_more {m : List Bool} {q : Int} (h : q.toNat < m.length) : decide (m.set q.toNat true ≠ m) = !onL m q := by
  cases hb : onL m q with
  | true =>
    rw [onL_get rfl h] at hb
    have : m.set q.toNat true = m := by rw [← hb]; exact List.set_getElem_self h
    rw [this]; simp
  | false =>
    have : m.set q.toNat true ≠ m := fun e => by
      have h2 := set_on (m := m) h (q := q) rfl
      rw [e, hb] at h2; cases h2
    simp [this]
theorem come_old {m : List Bool} {r : Rl} (h : r.to.toNat < m.length) (ho : onL m r.to = true) : comeS m r = m := by
  unfold comeS
  split
  · have := set_more h
    rw [ho] at this
    exact Decidable.not_not.1 (of_decide_eq_false this)
  · rfl
theorem come_not {m : List Bool} {r : Rl} (h : r.args.all (onL m) = false) : comeS m r = m := by
  unfold comeS; rw [if_neg (by rw [h]; decide)]
theorem come_new {m : List Bool} {r : Rl} (h : r.to.toNat < m.length) (ho : onL m r.to = false) (ha : r.args.all (onL m) = true) : comeS m r = m.set r.to.toNat true ∧ decide (comeS m r ≠ m) = true := by
  have e : comeS m r = m.set r.to.toNat true := by unfold comeS; rw [if_pos ha]
  refine ⟨e, ?_⟩
  rw [e, set_more h, ho]; rfl
def setsL (m : List Bool) (qs : List Int) : List Bool := qs.foldl (fun m (q : Int) => m.set q.toNat true) m
theorem setsL_len (m : List Bool) (qs : List Int) : (setsL m qs).length = m.length := (up_sets qs m).len
theorem setsL_snoc {m : List Bool} {qs : List Int} {k : Nat} (hk : k < qs.length) : setsL m (qs.take (k + 1)) = (setsL m (qs.take k)).set qs[k].toNat true := by
  unfold setsL
  rw [List.take_succ_eq_append_getElem hk, List.foldl_append]
  rfl
theorem setsL_more {m : List Bool} {qs : List Int} {k : Nat} (hk : k < qs.length) (hq : qs[k].toNat < m.length) : decide (setsL m (qs.take (k + 1)) ≠ m) = (!onL (setsL m (qs.take k)) qs[k] || decide (setsL m (qs.take k) ≠ m)) := by
  have h := fold_more (S := fun m (q : Int) => m.set q.toNat true) (fun m q => up_set m _) (m := m) hk
  rw [← set_more (m := setsL m (qs.take k)) (q := qs[k]) (by rw [setsL_len]; exact hq)]
  exact h
theorem lead_do {c m : List Bool} {r : Rl} (h1 : onL m r.to = true) (h2 : r.args.all (onL c) = true) : leadS c m r = setsL m r.args := by
  unfold leadS; rw [if_pos ⟨h1, h2⟩]; rfl
theorem lead_not {c m : List Bool} {r : Rl} (h : ¬ (onL m r.to = true ∧ r.args.all (onL c) = true)) : leadS c m r = m := by
  unfold leadS; rw [if_neg h]
theorem finL_is (F : List Int) (n : Nat) : setsL (noneL n) F = finL F n := rfl
theorem leftR_snoc {a : Au} {rs : List Rl} {k : Nat} (hk : k < rs.length) : leftR a (rs.take (k + 1)) = leftR a (rs.take k) ++ if keepR a rs[k] = true then [newR a rs[k]] else [] := by
  unfold leftR
  rw [List.take_succ_eq_append_getElem hk, List.filter_append, List.map_append]
  by_cases h : keepR a rs[k] = true
  · rw [if_pos h, List.filter_cons_of_pos h]; rfl
  · rw [if_neg h, List.filter_cons_of_neg h]; rfl
theorem leftF_snoc {a : Au} {F : List Int} {k : Nat} (hk : k < F.length) : leftF a (F.take (k + 1)) = leftF a (F.take k) ++ if stayA a F[k] = true then [newA a F[k]] else [] := by
  unfold leftF
  rw [List.take_succ_eq_append_getElem hk, List.filter_append, List.map_append]
  by_cases h : stayA a F[k] = true
  · rw [if_pos h, List.filter_cons_of_pos h]; rfl
  · rw [if_neg h, List.filter_cons_of_neg h]; rfl
theorem leftR_len (a : Au) (rs : List Rl) : (leftR a rs).length ≤ rs.length := by unfold leftR; rw [List.length_map]; exact List.length_filter_le _ _
theorem leftF_len (a : Au) (F : List Int) : (leftF a F).length ≤ F.length := by unfold leftF; rw [List.length_map]; exact List.length_filter_le _ _
end Pal
namespace Pal
open Go Go.Proofs Go.Proofs.X
/-! ### As the reference trims -/
theorem mkL_putv {m : List Bool} {v : Bool} {i off : Nat} (h : i < m.length) (ho : off = i) : putCells (mkL m) off (Value.bool v).cells.toList = mkL (m.set i v) := by
  subst ho
  have e : putCells (mkL m) off (Value.bool v).cells.toList = (mkL m).setIfInBounds off (.bool v) := putCells_one (by rw [mkL_size]; exact h)
  rw [e]
  simp [mkL, List.map_set]
end Pal
namespace Pal
open Go Go.Proofs Go.Proofs.X
end Pal

/-
  An owned automaton that is read, and changed cell by cell. Own work. No statement of the seat is proved here.
-/
namespace Pal
open Go Go.Proofs Go.Proofs.X
theorem flat_split {α : Type} {f : α → List Value} {qs : List α} {k : Nat} (hk : k < qs.length) : qs.flatMap f = (qs.take k).flatMap f ++ (f qs[k] ++ (qs.drop (k + 1)).flatMap f) := by
  have e : qs = qs.take k ++ qs[k] :: qs.drop (k + 1) := by simp
  conv => lhs; rw [e]
  rw [List.flatMap_append, List.flatMap_cons]
theorem flat_lenN {α : Type} {f : α → List Value} {sz : Nat} (hsz : ∀ x, (f x).length = sz) : ∀ qs : List α, (qs.flatMap f).length = qs.length * sz
  | [] => by simp
  | q :: qs => by rw [List.flatMap_cons, List.length_append, hsz, flat_lenN hsz qs, List.length_cons, Nat.succ_mul]; omega
theorem flat_cell {α : Type} {f : α → List Value} {sz : Nat} (hsz : ∀ x, (f x).length = sz) {qs : List α} {k j off : Nat} {v : Value} (hk : k < qs.length) (ho : off = k * sz + j) (tail : List Value) (hv : (f qs[k])[j]? = some v) : (qs.flatMap f ++ tail).toArray[off]? = some v := by
  subst ho
  have hj : j < (f qs[k]).length := (List.getElem?_eq_some_iff.1 hv).1
  have hl : ((qs.take k).flatMap f).length = k * sz := by rw [flat_lenN hsz, List.length_take, Nat.min_eq_left (by omega)]
  rw [List.getElem?_toArray, flat_split hk, List.append_assoc, List.getElem?_append_right (by omega), hl, Nat.add_sub_cancel_left, List.append_assoc, List.getElem?_append_left hj]
  exact hv
theorem set_mid {α : Type} {qs : List α} {k : Nat} (hk : k < qs.length) (q : α) : qs.take k ++ q :: qs.drop (k + 1) = qs.set k q := by
  rw [List.set_eq_take_append_cons_drop, if_pos hk]
theorem mid_len {α : Type} {qs : List α} {k : Nat} (hk : k < qs.length) (q : α) : (qs.take k ++ q :: qs.drop (k + 1)).length = qs.length := by rw [set_mid hk, List.length_set]
theorem mid_get {α : Type} {qs : List α} {k : Nat} (hk : k < qs.length) (q : α) : (qs.take k ++ q :: qs.drop (k + 1))[k]'(by rw [mid_len hk]; exact hk) = q := by
  have h0 : (qs.take k).length = k := by rw [List.length_take]; omega
  rw [List.getElem_append_right (by omega)]
  simp only [h0, Nat.sub_self, List.getElem_cons_zero]
section rules
variable {P : Program} {n : Nat} {c : Cx} {Q : Exit → Act → World → Prop} {l : KL} {hl : HL} {H : View}
end rules
end Pal
namespace Pal
open Go Go.Proofs Go.Proofs.X
end Pal
namespace Pal
end Pal

/-
  The tables of a search in the heap. Own work. No statement of the seat is proved here.
-/
namespace Pal
open Go Go.Proofs Go.Proofs.X
/-- A map of choices. -/
def ChP (kvs : KVs) (f : Int → Option Ch) : Prop := (kvs.map (·.1)).Nodup ∧ ∀ q, lookI kvs q = (f q).map chV
theorem ChP.nil : ChP [] (fun _ => none) := ⟨by simp, fun q => by simp [lookI, findI]⟩
theorem ChP.set {kvs : KVs} {f : Int → Option Ch} (h : ChP kvs f) (q : Int) (c : Ch) : ChP (setI kvs q (chV c)) (updF f q c) := by
  refine ⟨setI_keys q _ h.1, fun x => ?_⟩
  rw [lookI_setI h.1]
  unfold updF
  by_cases e : q = x
  · rw [if_pos e.symm, if_pos e]; rfl
  · rw [if_neg (fun h => e h.symm), if_neg e]; exact h.2 x
theorem ChP.val {kvs : KVs} {f : Int → Option Ch} (h : ChP kvs f) (q : Int) : (lookI kvs q).getD (chV ch0) = chV ((f q).getD ch0) := by
  rw [h.2 q]; cases f q <;> rfl
theorem ChP.keys {kvs : KVs} {f : Int → Option Ch} (h : ChP kvs f) (q : Int) : q ∈ kvs.map (·.1) ↔ (f q).isSome = true := by
  rw [← lookI_isSome, h.2 q]; cases f q <;> simp
inductive RepTb (H : View) : Tb → Nat → Prop
  | mk (f : Int → Option Ch) (R : List Int) (kids : List Tb) (b m : Nat) (kvs : KVs) (a : Option Addr) (cap : Nat) (ps : Nat → Nat) (hb : At H b 0 [.slice a kids.length cap, mp m]) (hm : H m = some (mapOb kvs)) (hf : ChP kvs f)
      (hA : ∀ i, i < kids.length → ∃ cb off, a = some ⟨cb, off, none⟩ ∧ At H cb (off + i * 1) [ptr (ps i)]) (hr : ∀ i (h : i < kids.length), RepTb H kids[i] (ps i)) : RepTb H (.mk f R kids) b
theorem RepTb.mono {H H' : View} {tb : Tb} {b : Nat} (h : RepTb H tb b) (hle : VLe H H') : RepTb H' tb b := by
  induction h with
  | mk f R kids b m kvs a cap ps hb hm hf hA hr ih =>
    refine .mk f R kids b m kvs a cap ps (hb.mono hle) (hle _ _ hm) hf (fun i hi => ?_) fun i hi => ih i hi
    obtain ⟨cb, off, e, h⟩ := hA i hi
    exact ⟨cb, off, e, h.mono hle⟩
end Pal
namespace Pal
open Go Go.Proofs Go.Proofs.X
theorem consF_none {f : Int → Option Ch} {c : Ch} {q : Int} (h : f q = none) : consF f (c, q) = updF f q c := by simp [consF, h]
theorem consF_lt {f : Int → Option Ch} {c o : Ch} {q : Int} (h : f q = some o) (hl : cmpL (keyC c) (keyC o) < 0) : consF f (c, q) = updF f q c := by simp [consF, h, hl]
theorem consF_ge {f : Int → Option Ch} {c o : Ch} {q : Int} (h : f q = some o) (hl : ¬ cmpL (keyC c) (keyC o) < 0) : consF f (c, q) = f := by simp [consF, h, hl]
theorem ChP.look {kvs : KVs} {f : Int → Option Ch} (h : ChP kvs f) (q : Int) : (Value.tuple #[(lookI kvs q).getD (chV ch0), .bool (lookI kvs q).isSome]) = .tuple #[chV ((f q).getD ch0), .bool (f q).isSome] := by
  rw [h.val q, h.2 q]; cases f q <;> rfl
end Pal

/-
  A search step by step: the tables asx they grow. Own work. No statement of the seat is proved here.
-/
namespace Pal
open Go Go.Proofs Go.Proofs.X
abbrev FC := Int → Option Ch
def f1 (d : Dt) (s : Int) (R : List Int) (F : FC) : Nat → FC
  | 0 => F
  | j + 1 => consF (f1 d s R F j) (⟨s, R.getD j 0, 0, (j : Int), 0⟩, atI d s (R.getD j 0))
def f2in (d : Dt) (s p : Int) (i : Nat) (T : List Int) (F : FC) : Nat → FC
  | 0 => F
  | k + 1 => consF (f2in d s p i T F k) (⟨s, p, T.getD k 0, (i : Int), (k : Int)⟩, atI d s (p * (d.acc.length : Int) + T.getD k 0))
def f2 (d : Dt) (s : Int) (R T : List Int) (F : FC) : Nat → FC
  | 0 => F
  | i + 1 => f2in d s (R.getD i 0) i T (f2 d s R T F i) T.length
def Bd (d : Dt) (f : FC) : Prop := ∀ q, (f q).isSome = true → 0 ≤ q ∧ q < (d.acc.length : Int)
theorem Bd.none (d : Dt) : Bd d (fun _ => none) := fun q h => by cases h
theorem Bd.cons {d : Dt} {f : FC} (h : Bd d f) (c : Ch) {q : Int} (hq : 0 ≤ q ∧ q < (d.acc.length : Int)) : Bd d (consF f (c, q)) := by
  have hu : Bd d (updF f q c) := fun x hx => by
    unfold updF at hx
    split at hx
    · rename_i e; rw [← e]; exact hq
    · exact h x hx
  cases ho : f q with
  | none => rw [consF_none ho]; exact hu
  | some o =>
    by_cases hl : cmpL (keyC c) (keyC o) < 0
    · rw [consF_lt ho hl]; exact hu
    · rw [consF_ge ho hl]; exact h
def srcL (l rk : List Int) : List (List Int) := (List.range rk.length).map fun (y : Nat) => srcs l (y : Int)
def nilP : Rl × Value := (⟨0, [], 0⟩, nilS)
def headsP (ps : List (Rl × Value)) : Array Value := (ps.map (·.2)).toArray
section rules
variable {P : Program} {n : Nat} {c : Cx} {Q : Exit → Act → World → Prop} {l : KL} {hl : HL} {H : View}
end rules
/-- The symbols below k that go to s. -/
def srcTo (l : List Int) (s k : Nat) : List Int := ((List.range k).filter fun (i : Nat) => decide (l.getD i 0 = (s : Int))).map fun (i : Nat) => (i : Int)
theorem srcTo_succ (l : List Int) (s k : Nat) : srcTo l s (k + 1) = srcTo l s k ++ if l.getD k 0 = (s : Int) then [(k : Int)] else [] := by
  unfold srcTo
  rw [List.range_succ, List.filter_append, List.map_append]
  by_cases h : l.getD k 0 = (s : Int)
  · rw [if_pos h, List.filter_cons, decide_eq_true h]; rfl
  · rw [if_neg h, List.filter_cons, decide_eq_false h]; rfl
theorem srcTo_len (l : List Int) (s k : Nat) : (srcTo l s k).length ≤ k := by
  unfold srcTo; rw [List.length_map]; exact Nat.le_trans (List.length_filter_le _ _) (by simp)
theorem srcTo_all (l : List Int) (s : Nat) : srcTo l s l.length = srcs l (s : Int) := rfl
theorem srcTo_mem {l : List Int} {s k : Nat} {x : Int} (h : x ∈ srcTo l s k) : 0 ≤ x ∧ x < (k : Int) := by
  obtain ⟨i, hi, rfl⟩ := List.mem_map.1 h
  have := List.mem_range.1 (List.mem_filter.1 hi).1
  omega
/-- The rows of sources asx far asx k. -/
structure SrcOk (l : List Int) (n k : Nat) (ps : List (Rl × Value)) : Prop where
  len : ps.length = n
  row : ∀ s (h : s < ps.length), (ps[s]).1 = ⟨0, srcTo l s k, 0⟩
theorem SrcOk.nil (l : List Int) (n : Nat) : SrcOk l n 0 (List.replicate n nilP) := ⟨by simp, fun s h => by simp [nilP, srcTo]⟩
theorem SrcOk.step {l : List Int} {n k : Nat} {ps : List (Rl × Value)} (h : SrcOk l n k ps) {s : Nat} (hs : s < ps.length) (hk : l.getD k 0 = (s : Int)) (v : Value) : SrcOk l n (k + 1) (ps.take s ++ (⟨0, (ps[s]).1.args ++ [(k : Int)], 0⟩, v) :: ps.drop (s + 1)) := by
  refine ⟨by rw [mid_len hs]; exact h.len, fun t ht => ?_⟩
  rw [mid_len hs] at ht
  by_cases e : t = s
  · subst e
    rw [mid_get hs, srcTo_succ, if_pos hk, h.row t hs]
  · have e1 : (ps.take s ++ ((⟨0, (ps[s]).1.args ++ [(k : Int)], 0⟩ : Rl), v) :: ps.drop (s + 1))[t]'(by rw [mid_len hs]; exact ht) = ps[t] := by
      have := set_mid hs ((⟨0, (ps[s]).1.args ++ [(k : Int)], 0⟩ : Rl), v)
      simp only [this]
      rw [List.getElem_set_ne (fun h => e h.symm)]
    rw [e1, srcTo_succ, if_neg (by omega), List.append_nil]
    exact h.row t ht
theorem SrcOk.bounds {l : List Int} {n k : Nat} {ps : List (Rl × Value)} (h : SrcOk l n k ps) (hk : k ≤ 1048576) : ∀ p ∈ ps, RlB p.1 := by
  intro p hp
  obtain ⟨s, hs, rfl⟩ := List.getElem_of_mem hp
  rw [h.row s hs]
  refine ⟨Nat.le_trans (srcTo_len l s k) (by omega), by show i64ok 0; simp [i64ok], by show i64ok 0; simp [i64ok], fun x hx => ?_⟩
  have := srcTo_mem hx
  simp only [i64ok]; omega
theorem SrcOk.ssi {l rk : List Int} {ps : List (Rl × Value)} {H : View} {b cap : Nat} (h : SrcOk l rk.length l.length ps) (hb : At H b 0 (headsP ps).toList) (hv : ∀ p ∈ ps, RVok H p) : SSI H (.slice (some ⟨b, 0, none⟩) (srcL l rk).length cap) (srcL l rk) := by
  have hl : (srcL l rk).length = ps.length := by rw [h.len]; simp [srcL]
  refine ⟨ps.map (·.2), ?_, ?_⟩
  · exact ⟨_, _, rfl, .inr ⟨b, 0, rfl, by simpa [headsP] using hb⟩⟩
  · have e : srcL l rk = ps.map fun p => p.1.args := by
      refine List.ext_getElem (by rw [hl, List.length_map]) fun s h1 h2 => ?_
      have hs : s < ps.length := by rw [← hl]; exact h1
      rw [List.getElem_map, h.row s hs]
      simp [srcL, srcTo_all]
    rw [e]
    have key : ∀ qs : List (Rl × Value), (∀ p ∈ qs, RVok H p) → RepL (RSI H) 1 (qs.map fun p => p.1.args) (qs.map (·.2)) := by
      intro qs
      induction qs with
      | nil => intro _; exact .nil
      | cons q qs ih =>
        intro hq
        exact .cons (cs := [q.2]) ⟨q.2, rfl, (hq q List.mem_cons_self).1⟩ rfl (ih fun p hp => hq p (List.mem_cons_of_mem _ hp))
    exact key ps hv
def accU (d : Dt) (u : Tr) : Bool := d.acc.getD (u.run d).toNat false
def IsWit (d : Dt) (l : List Int) (t : Tr) : Option Tr → Prop
  | none => ∀ u, Tr.relabel l u = some t → accU d u = false
  | some w => (Tr.relabel l w = some t ∧ accU d w = true) ∧ ∀ u, Tr.relabel l u = some t → accU d u = true → cmpL w.code u.code ≤ 0
theorem IsWit.uniq {d : Dt} {l : List Int} {t : Tr} : ∀ {o o' : Option Tr}, IsWit d l t o → IsWit d l t o' → o = o'
  | none, none, _, _ => rfl
  | none, some w, h, h' => by have := h w h'.1.1; rw [h'.1.2] at this; cases this
  | some w, none, h, h' => by have := h' w h.1.1; rw [h.1.2] at this; cases this
  | some w, some w', h, h' => by
    have h1 := h.2 w' h'.1.1 h'.1.2
    have h2 := h'.2 w h.1.1 h.1.2
    rw [cmpL_swap] at h2
    rw [code_inj t w w' h.1.1 h'.1.1 (cmpL_eq.1 (by omega))]
section rules
variable {P : Program} {n : Nat} {c : Cx} {Q : Exit → Act → World → Prop} {l : KL} {hl : HL} {H : View}
end rules
end Pal

/-
  All preimages, asx the reference goes through them, and the least of a list. Own work. No statement of the seat is proved here.
-/
namespace Pal
open Go Go.Proofs Go.Proofs.X
def BestI (d : Dt) (L : List Tr) (i : Nat) : Option Nat → Prop
  | none => ∀ k (h : k < L.length), k < i → accU d L[k] = false
  | some b => ∃ hb : b < L.length, b < i ∧ accU d L[b] = true ∧ ∀ k (h : k < L.length), k < i → accU d L[k] = true → cmpL (L[b]).code (L[k]).code ≤ 0
theorem BestI.zero (d : Dt) (L : List Tr) : BestI d L 0 none := fun k _ h => absurd h (Nat.not_lt_zero _)
theorem BestI.skip {d : Dt} {L : List Tr} {i : Nat} (hi : i < L.length) (ha : accU d L[i] = false) : ∀ {o : Option Nat}, BestI d L i o → BestI d L (i + 1) o
  | none, h => fun k hk h2 => by
    by_cases e : k = i
    · subst e; exact ha
    · exact h k hk (by omega)
  | some b, ⟨hb, h1, h2, h3⟩ => ⟨hb, by omega, h2, fun k hk h4 h5 => by
    by_cases e : k = i
    · subst e; rw [ha] at h5; cases h5
    · exact h3 k hk (by omega) h5⟩
theorem BestI.first {d : Dt} {L : List Tr} {i : Nat} (hi : i < L.length) (ha : accU d L[i] = true) (h : BestI d L i none) : BestI d L (i + 1) (some i) :=
  ⟨hi, by omega, ha, fun k hk h4 h5 => by
    by_cases e : k = i
    · subst e; rw [cmpL_self]; exact Int.le_refl _
    · have := h k hk (by omega); rw [this] at h5; cases h5⟩
theorem BestI.less {d : Dt} {L : List Tr} {i b : Nat} (hi : i < L.length) (ha : accU d L[i] = true) (hb : b < L.length) (hl : cmpL (L[i]).code (L[b]).code < 0) (h : BestI d L i (some b)) : BestI d L (i + 1) (some i) := by
  obtain ⟨_, h1, h2, h3⟩ := h
  refine ⟨hi, by omega, ha, fun k hk h4 h5 => ?_⟩
  by_cases e : k = i
  · subst e; rw [cmpL_self]; exact Int.le_refl _
  · exact cmpL_le_trans (by omega) (h3 k hk (by omega) h5)
theorem BestI.stay {d : Dt} {L : List Tr} {i b : Nat} (hi : i < L.length) (hb : b < L.length) (hl : ¬ cmpL (L[i]).code (L[b]).code < 0) (h : BestI d L i (some b)) : BestI d L (i + 1) (some b) := by
  obtain ⟨_, h1, h2, h3⟩ := h
  refine ⟨hb, by omega, h2, fun k hk h4 h5 => ?_⟩
  by_cases e : k = i
  · subst e; rw [cmpL_swap]; omega
  · exact h3 k hk (by omega) h5
end Pal
namespace Pal
open Go Go.Proofs Go.Proofs.X
theorem At.flat {H : View} {b off n sz : Nat} {f : Nat → List Value} (hsz : ∀ i, (f i).length = sz) (hn : 0 < n) (hz : 0 < sz) (h : ∀ i, i < n → At H b (off + i * sz) (f i)) : At H b off ((List.range n).flatMap f) := by
  obtain ⟨c, T, fz, e, _⟩ := h 0 hn
  refine ⟨c, T, fz, e, fun j v hj => ?_⟩
  have hl : ((List.range n).flatMap f).length = n * sz := by rw [flat_lenN hsz, List.length_range]
  have hjl : j < n * sz := by rw [← hl]; exact (List.getElem?_eq_some_iff.1 hj).1
  have hi : j / sz < n := by rw [Nat.div_lt_iff_lt_mul hz]; exact hjl
  have hm : j % sz < (f (j / sz)).length := by rw [hsz]; exact Nat.mod_lt _ hz
  have hrl : j / sz < (List.range n).length := by simpa using hi
  have h1 := flat_cell hsz (qs := List.range n) (k := j / sz) (j := j % sz) (off := j / sz * sz + j % sz) (v := (f (j / sz))[j % sz]) hrl rfl [] (by rw [List.getElem_range]; exact List.getElem?_eq_getElem hm)
  rw [List.append_nil, List.getElem?_toArray, Nat.mul_comm, Nat.div_add_mod] at h1
  rw [h1] at hj
  cases hj
  obtain ⟨c', T', fz', e', h2⟩ := h (j / sz) hi
  rw [e] at e'
  cases e'
  have h3 := h2 (j % sz) _ (List.getElem?_eq_getElem hm)
  have e2 : off + j / sz * sz + j % sz = off + j := by
    have := Nat.div_add_mod j sz
    rw [Nat.mul_comm] at this
    omega
  rwa [e2] at h3
theorem RepL.fn {R : Tr → List Value → Prop} {sz : Nat} {ts : List Tr} {f : Nat → List Value} (h : ∀ i (hi : i < ts.length), R ts[i] (f i) ∧ (f i).length = sz) : RepL R sz ts ((List.range ts.length).flatMap f) := by
  have key : ∀ k, k ≤ ts.length → RepL R sz (ts.take k) ((List.range k).flatMap f) := by
    intro k
    induction k with
    | zero => intro _; exact .nil
    | succ k ih =>
      intro hk
      rw [List.take_succ_eq_append_getElem (by omega), List.range_succ, List.flatMap_append]
      have := (ih (by omega)).snoc (h k (by omega)).1 (h k (by omega)).2
      simpa using this
  have := key ts.length (Nat.le_refl _)
  rwa [List.take_length] at this
theorem _root_.Pal.RepT.inv {H : View} {s : Int} {ts : List Tr} {cs : List Value} (h : RepT H (.node s ts) cs) : ∃ a cap cells, cs = [.int .i64 s, .slice a ts.length cap] ∧ SlAt H (.slice a ts.length cap) ts.length cells ∧ RepL (RepT H) 2 ts cells ∧ i64ok s := by
  cases h with | mk _ _ a cap b off cs' hs ha hA hr =>
  let f : Nat → List Value := fun i => if i < ts.length then cs' i else [.int .i64 0, .int .i64 0]
  have hf : ∀ i, i < ts.length → f i = cs' i := fun i hi => if_pos hi
  have hsz : ∀ i, (f i).length = 2 := fun i => by
    by_cases hi : i < ts.length
    · rw [hf i hi]; exact (hA i hi).1
    · show (if i < ts.length then cs' i else _).length = 2
      rw [if_neg hi]; rfl
  refine ⟨a, cap, (List.range ts.length).flatMap f, rfl, ?_, RepL.fn fun i hi => ⟨by rw [hf i hi]; exact hr i hi, hsz i⟩, hs⟩
  by_cases hn : ts = []
  · subst hn
    exact ⟨_, _, rfl, .inl ⟨rfl, rfl⟩⟩
  · refine ⟨_, _, rfl, .inr ⟨b, off, ha hn, At.flat hsz (List.length_pos_iff.2 hn) (by decide) fun i hi => ?_⟩⟩
    rw [hf i hi]; exact (hA i hi).2
end Pal
namespace Pal
open Go Go.Proofs Go.Proofs.X
end Pal

/-
  Least trees in maps; the passes asx the program goes through them. Own work. No statement of the seat is proved here.
-/
namespace Pal
open Go Go.Proofs Go.Proofs.X
theorem argsB_snoc {b : BT} {qs : List Int} {i : Nat} {ts : List Tr} {t : Tr} (h : argsB b (qs.take i) = some ts) (hi : i < qs.length) (hb : b qs[i] = some t) : argsB b (qs.take (i + 1)) = some (ts ++ [t]) := by
  obtain ⟨h1, h2⟩ := argsB_some.1 h
  rw [List.length_take, Nat.min_eq_left (by omega)] at h1
  refine argsB_some.2 ⟨by rw [List.length_append, List.length_take, h1]; simp; omega, fun j hj => ?_⟩
  rw [List.length_append, h1] at hj
  simp only [List.length_cons, List.length_nil] at hj
  have e1 : (qs.take (i + 1)).getD j 0 = qs.getD j 0 := by simp [List.getD, show j < i + 1 by omega]
  rw [e1]
  by_cases e : j = i
  · subst e
    rw [List.getElem_append_right (by omega)]
    simp only [h1, Nat.sub_self, List.getElem_cons_zero]
    rw [← hb]; simp [List.getD, hi]
  · have hlt : j < ts.length := by omega
    rw [List.getElem_append_left hlt]
    have := h2 j hlt
    rw [← this]
    simp [List.getD, show j < i by omega]
theorem argsB_none {b : BT} {qs : List Int} {i : Nat} (hi : i < qs.length) (hb : b qs[i] = none) : argsB b qs = none := by
  cases h : argsB b qs with
  | none => rfl
  | some ts =>
    obtain ⟨h1, h2⟩ := argsB_some.1 h
    have := h2 i (by omega)
    rw [show qs.getD i 0 = qs[i] by simp [List.getD, hi], hb] at this
    cases this
theorem newB_none {b : BT} {r : Rl} (h : argsB b r.args = none) : newB b r = none := by unfold newB candB; rw [h]; rfl
theorem newB_is {b : BT} {r : Rl} {ts : List Tr} (h : argsB b r.args = some ts) : newB b r = if (Tr.node r.sym ts).size ≤ 4096 ∧ betterB (b r.to) (.node r.sym ts) = true then some (.node r.sym ts) else none := by unfold newB candB; rw [h]; rfl
/-! ### In a map -/
def BestM (H : View) (kvs : KVs) (b : BT) : Prop := (kvs.map (·.1)).Nodup ∧ ∀ q, match b q with
  | none => lookI kvs q = none
  | some t => ∃ cs, lookI kvs q = some (.agg cs.toArray) ∧ RepT H t cs
theorem BestM.zero (H : View) : BestM H [] fun _ => none := ⟨List.nodup_nil, fun _ => rfl⟩
theorem BestM.no {H : View} {kvs : KVs} {b : BT} (h : BestM H kvs b) {q : Int} (hb : b q = none) : lookI kvs q = none := by
  have := h.2 q
  rw [hb] at this
  exact this
theorem BestM.yes {H : View} {kvs : KVs} {b : BT} (h : BestM H kvs b) {q : Int} {t : Tr} (hb : b q = some t) : ∃ y0 y1 y2 y3, lookI kvs q = some (.agg #[.int .i64 y0, .slice y1 y2 y3]) ∧ RepT H t [.int .i64 y0, .slice y1 y2 y3] := by
  have := h.2 q
  rw [hb] at this
  obtain ⟨cs, h1, h2⟩ := this
  obtain ⟨y0, y1, y2, y3, rfl⟩ := h2.shape
  exact ⟨y0, y1, y2, y3, h1, h2⟩
theorem BestM.mono {H H' : View} {kvs : KVs} {b : BT} (h : BestM H kvs b) (hle : VLe H H') : BestM H' kvs b := by
  refine ⟨h.1, fun q => ?_⟩
  have := h.2 q
  cases hb : b q with
  | none => rw [hb] at this; exact this
  | some t =>
    rw [hb] at this
    obtain ⟨cs, h1, h2⟩ := this
    exact ⟨cs, h1, h2.mono hle⟩
theorem BestM.set {H : View} {kvs : KVs} {b : BT} (h : BestM H kvs b) {q : Int} {t : Tr} {cs : List Value} (hr : RepT H t cs) : BestM H (setI kvs q (.agg cs.toArray)) (updB b q t) := by
  refine ⟨setI_keys _ _ h.1, fun p => ?_⟩
  rw [lookI_setI h.1]
  unfold updB
  by_cases e : p = q
  · rw [if_pos e, if_pos e]; exact ⟨cs, rfl, hr⟩
  · rw [if_neg e, if_neg e]; exact h.2 p
theorem BestM.key {H : View} {kvs : KVs} {b : BT} (h : BestM H kvs b) {i : Nat} {q : Int} {u : Value} (hk : kvs[i]? = some (q, u)) : ∃ t y0 y1 y2 y3, b q = some t ∧ u = .agg #[.int .i64 y0, .slice y1 y2 y3] ∧ RepT H t [.int .i64 y0, .slice y1 y2 y3] := by
  have hl := lookI_mem h.1 (List.mem_of_getElem? hk)
  cases hb : b q with
  | none => rw [h.no hb] at hl; cases hl
  | some t =>
    obtain ⟨y0, y1, y2, y3, h1, h2⟩ := h.yes hb
    rw [hl] at h1
    cases h1
    exact ⟨t, y0, y1, y2, y3, rfl, rfl, h2⟩
theorem BestM.mem {H : View} {kvs : KVs} {b : BT} (h : BestM H kvs b) {q : Int} {t : Tr} (hb : b q = some t) : q ∈ kvs.map (·.1) := by
  obtain ⟨y0, y1, y2, y3, h1, _⟩ := h.yes hb
  exact lookI_isSome.1 (by rw [h1]; rfl)
/-! ### The passes' measure -/
theorem stepP_is (s : BT × Bool) (r : Rl) : stepP s r = (stepB s.1 r, s.2 || (newB s.1 r).isSome) := rfl
def passP (rs : List Rl) (b : BT) : BT × Bool := rs.foldl stepP (b, false)
theorem passP_fst (rs : List Rl) (b : BT) : (passP rs b).1 = passB rs b := stepP_fst rs _
theorem passP_succ {rs : List Rl} {k : Nat} (hk : k < rs.length) (b : BT) : passP (rs.take (k + 1)) b = stepP (passP (rs.take k) b) rs[k] := by
  unfold passP
  rw [List.take_succ_eq_append_getElem hk, List.foldl_append]; rfl
theorem passP_inv {rs : List Rl} {b : BT} (h : InvB rs b) (k : Nat) : InvB rs (passP (rs.take k) b).1 := by
  rw [passP_fst]
  exact h.steps fun r hr => List.mem_of_mem_take hr
def UA (a : Au) : List Tr := univ a.ranks.length (a.states.toNat + 1)
def muA (a : Au) (b : BT) : Nat := muB (UA a) a.states.toNat b
theorem mu_pass {a : Au} (hok : AuOk a) {b : BT} (h : InvB a.rules b) : ∀ k, k ≤ a.rules.length → muA a (passP (a.rules.take k) b).1 + (if (passP (a.rules.take k) b).2 = true then 1 else 0) ≤ muA a b
  | 0, _ => Nat.le_refl _
  | k + 1, hk => by
    have ih := mu_pass hok h k (by omega)
    have hi := passP_inv h k
    have := mu_step hok hi (List.getElem_mem (show k < a.rules.length by omega))
    rw [passP_succ (by omega), stepP_is]
    generalize passP (a.rules.take k) b = s at *
    have e : muA a (stepB s.1 a.rules[k]) + (if (newB s.1 a.rules[k]).isSome = true then 1 else 0) ≤ muA a s.1 := this
    dsimp only
    cases h1 : (newB s.1 a.rules[k]).isSome <;> cases h2 : s.2 <;> rw [h1] at e <;> rw [h2] at ih <;> simp only [Bool.or_self, Bool.or_true, Bool.or_false, if_true, if_false, Bool.false_eq_true] at * <;> omega
theorem Best.of {a : Au} {b : BT} (hc : ∃ n, b = chainB a.rules n) (hf : (passP a.rules b).2 = false) : Best a.rules b := by
  obtain ⟨h1, h2⟩ := stepP_no hf
  exact ⟨hc, h1, h2⟩
/-! ### The least of a map's trees -/
theorem LeastOf.skip {b : BT} {F : Int → Prop} {o : Option Tr} (h : LeastOf b F o) (G : Int → Prop) (hG : ∀ p, G p → F p) (hF : ∀ p, F p → G p) : LeastOf b G o := by
  cases o with
  | none => exact fun p hp => h p (hG p hp)
  | some t =>
    obtain ⟨⟨p, h1, h2⟩, h3⟩ := h
    exact ⟨⟨p, hF p h1, h2⟩, fun p u hp => h3 p u (hG p hp)⟩
theorem LeastOf.first {b : BT} {F G : Int → Prop} {q : Int} {t : Tr} (h : LeastOf b F none) (hb : b q = some t) (hG : ∀ p, G p ↔ F p ∨ p = q) : LeastOf b G (some t) := by
  refine ⟨⟨q, (hG q).2 (.inr rfl), hb⟩, fun p u hp hu => ?_⟩
  rcases (hG p).1 hp with hp | rfl
  · rw [h p hp] at hu; cases hu
  · rw [hb] at hu; cases hu; rw [Tr.cmp_self]; exact Int.le_refl _
theorem LeastOf.less {b : BT} {F G : Int → Prop} {q : Int} {t w : Tr} (h : LeastOf b F (some w)) (hb : b q = some t) (hG : ∀ p, G p ↔ F p ∨ p = q) (hl : Tr.cmp t w < 0) : LeastOf b G (some t) := by
  refine ⟨⟨q, (hG q).2 (.inr rfl), hb⟩, fun p u hp hu => ?_⟩
  rcases (hG p).1 hp with hp | rfl
  · exact Tr.cmp_le_trans (Int.le_of_lt hl) (h.2 p u hp hu)
  · rw [hb] at hu; cases hu; rw [Tr.cmp_self]; exact Int.le_refl _
theorem LeastOf.stay {b : BT} {F G : Int → Prop} {q : Int} {t w : Tr} (h : LeastOf b F (some w)) (hb : b q = some t) (hG : ∀ p, G p ↔ F p ∨ p = q) (hl : ¬ Tr.cmp t w < 0) : LeastOf b G (some w) := by
  obtain ⟨⟨p, h1, h2⟩, h3⟩ := h
  refine ⟨⟨p, (hG p).2 (.inl h1), h2⟩, fun p u hp hu => ?_⟩
  rcases (hG p).1 hp with hp | rfl
  · exact h3 p u hp hu
  · rw [hb] at hu; cases hu; rw [Tr.cmp_swap]; omega
theorem cmp_or (x y : Int) (ts us : List Tr) : ((([cmpI (Tr.node x ts).size (Tr.node y us).size, cmpI x y, cmpI ts.length us.length]).find? fun x => decide (x ≠ 0)).getD 0 ≠ 0 → Tr.cmp (.node x ts) (.node y us) = (([cmpI (Tr.node x ts).size (Tr.node y us).size, cmpI x y, cmpI ts.length us.length]).find? fun x => decide (x ≠ 0)).getD 0) ∧
    (¬ (([cmpI (Tr.node x ts).size (Tr.node y us).size, cmpI x y, cmpI ts.length us.length]).find? fun x => decide (x ≠ 0)).getD 0 ≠ 0 → ts.length = us.length ∧ Tr.cmp (.node x ts) (.node y us) = Tr.cmps ts us) := by
  have hz : ∀ a b : Int, cmpI a b = 0 → a = b := fun a b h => by
    unfold cmpI at h
    split at h
    · cases h
    · split at h
      · cases h
      · omega
  rw [Tr.cmp]
  by_cases h1 : cmpI (Tr.node x ts).size (Tr.node y us).size = 0
  · by_cases h2 : cmpI x y = 0
    · by_cases h3 : cmpI ts.length us.length = 0
      · have := hz _ _ h3
        simp [h1, h2, h3]; omega
      · simp [h1, h2, h3]
    · simp [h1, h2]
  · simp [h1]
end Pal
namespace Pal
open Go Go.Proofs Go.Proofs.X
theorem args_sizes {rs : List Rl} {b : BT} (h : InvB rs b) {qs : List Int} {ts : List Tr} (ha : argsB b qs = some ts) : Tr.sizes ts ≤ ts.length * 4096 := by
  obtain ⟨h1, h2⟩ := argsB_some.1 ha
  have key : ∀ xs : List Tr, (∀ i (hi : i < xs.length), xs[i].size ≤ 4096) → Tr.sizes xs ≤ xs.length * 4096 := by
    intro xs
    induction xs with
    | nil => intro _; exact Nat.zero_le _
    | cons x xs ih =>
      intro hx
      have a1 : x.size ≤ 4096 := hx 0 (by simp)
      have a2 := ih fun i hi => by have := hx (i + 1) (by simpa using hi); simpa using this
      rw [Tr.sizes, List.length_cons]; omega
  exact key ts fun i hi => (h _ _ (h2 i hi)).2
theorem rank_two {a : Au} (hok : AuOk a) {r : Rl} (hr : r ∈ a.rules) : r.args.length ≤ 2 := by
  have hl := hok.ru r hr
  have h5 := hok.rk r.sym.toNat (by omega)
  have h6 : a.ranks.getD r.sym.toNat 0 = a.ranks[r.sym.toNat]'(by omega) := by simp [List.getD, show r.sym.toNat < a.ranks.length by omega]
  have := hl.2.2.1
  omega
end Pal
namespace Pal
open Go Go.Proofs Go.Proofs.X
theorem LeastOf.all {b : BT} {K : List Int} {F : Int → Prop} : ∀ {o : Option Tr}, LeastOf b (fun p => p ∈ K ∧ F p) o → (∀ p t, b p = some t → p ∈ K) → LeastOf b F o
  | none, h, hk => fun q hq => by
    cases hb : b q with
    | none => rfl
    | some t => have := h q ⟨hk q t hb, hq⟩; rw [hb] at this; exact this
  | some t, ⟨⟨q, h1, h2⟩, h3⟩, hk => ⟨⟨q, h1.2, h2⟩, fun p u hp hu => h3 p u ⟨hk p u hu, hp⟩ hu⟩
theorem keys_yes {F : Int → Bool} {K : List Int} {q : Int} (h : F q = true) (p : Int) : (p ∈ K ++ [q] ∧ F p = true) ↔ (p ∈ K ∧ F p = true) ∨ p = q := by
  rw [List.mem_append, List.mem_singleton]
  constructor
  · rintro ⟨h1 | h1, h2⟩
    · exact .inl ⟨h1, h2⟩
    · exact .inr h1
  · rintro (⟨h1, h2⟩ | rfl)
    · exact ⟨.inl h1, h2⟩
    · exact ⟨.inr rfl, h⟩
theorem keys_no {F : Int → Bool} {K : List Int} {q : Int} (h : F q = false) (p : Int) : (p ∈ K ++ [q] ∧ F p = true) → (p ∈ K ∧ F p = true) := by
  rw [List.mem_append, List.mem_singleton]
  rintro ⟨h1 | rfl, h2⟩
  · exact ⟨h1, h2⟩
  · rw [h] at h2; cases h2
end Pal

/-
  Numbers of trees by size and state; maps of numbers. Own work. No statement of the seat is proved here.
-/
namespace Pal
open Go Go.Proofs Go.Proofs.X
def sumN (n : Nat) (f : Nat → Nat) : Nat := ((List.range n).map f).sum
theorem sumN_succ (n : Nat) (f : Nat → Nat) : sumN (n + 1) f = sumN n f + f n := by unfold sumN; rw [List.range_succ, List.map_append, List.sum_append]; simp
theorem sumN_zero (f : Nat → Nat) : sumN 0 f = 0 := rfl
theorem sumN_congr {n : Nat} {f g : Nat → Nat} (h : ∀ i, i < n → f i = g i) : sumN n f = sumN n g := by
  unfold sumN
  rw [List.map_congr_left fun i hi => h i (List.mem_range.1 hi)]
theorem sumN_le {n : Nat} {f g : Nat → Nat} (h : ∀ i, i < n → f i ≤ g i) : sumN n f ≤ sumN n g := by
  induction n with
  | zero => exact Nat.le_refl _
  | succ n ih =>
    rw [sumN_succ, sumN_succ]
    have h1 := ih fun i hi => h i (by omega)
    have h2 := h n (by omega)
    omega
theorem sumN_const (n c : Nat) : sumN n (fun _ => c) = n * c := by
  induction n with
  | zero => simp [sumN_zero]
  | succ n ih => rw [sumN_succ, ih, Nat.succ_mul]
theorem sumN_bound {n B : Nat} {f : Nat → Nat} (h : ∀ i, i < n → f i ≤ B) : sumN n f ≤ n * B := by
  rw [← sumN_const]; exact sumN_le h
theorem sumN_mono {m n : Nat} (f : Nat → Nat) (h : m ≤ n) : sumN m f ≤ sumN n f := by
  induction n with
  | zero => have : m = 0 := by omega
            subst this; exact Nat.le_refl _
  | succ n ih =>
    by_cases e : m = n + 1
    · subst e; exact Nat.le_refl _
    · rw [sumN_succ]; have := ih (by omega); omega
/-- The trees of a size whose root has a given symbol, with a given state. -/
def term1 (d : Dt) (c : Nat → Int → Nat) (sym n : Nat) (q x : Int) : Nat := if atM d (sym : Int) [x] = q then c (n - 1) x else 0
def term2 (d : Dt) (c : Nat → Int → Nat) (sym n i : Nat) (q x y : Int) : Nat := if atM d (sym : Int) [x, y] = q then c i x * c (n - 1 - i) y else 0
def termD (d : Dt) (c : Nat → Int → Nat) (sym n : Nat) (q : Int) : Nat :=
  if n = 0 then 0 else if d.ranks.getD sym 0 = 0 then (if n = 1 then (if atM d (sym : Int) [] = q then 1 else 0) else 0)
  else if d.ranks.getD sym 0 = 1 then sumN d.acc.length fun x => term1 d c sym n q (x : Int)
  else sumN (n - 2) fun j => sumN d.acc.length fun x => sumN d.acc.length fun y => term2 d c sym n (j + 1) q (x : Int) (y : Int)
def rowD (d : Dt) (c : Nat → Int → Nat) (n : Nat) (q : Int) : Nat := sumN d.ranks.length fun sym => termD d c sym n q
theorem termD_congr {d : Dt} {c c' : Nat → Int → Nat} {sym n : Nat} (h : ∀ i, i < n → ∀ q, c i q = c' i q) (q : Int) : termD d c sym n q = termD d c' sym n q := by
  unfold termD
  by_cases h0 : n = 0
  · rw [if_pos h0, if_pos h0]
  rw [if_neg h0, if_neg h0]
  split
  · rfl
  split
  · exact sumN_congr fun x _ => by unfold term1; rw [h _ (by omega)]
  · refine sumN_congr fun j hj => sumN_congr fun x _ => sumN_congr fun y _ => ?_
    unfold term2
    rw [h _ (by omega), h _ (by omega)]
def cF (d : Dt) : Nat → Nat → Int → Nat
  | 0, _, _ => 0
  | f + 1, n, q => rowD d (cF d f) n q
def cD (d : Dt) (n : Nat) (q : Int) : Nat := cF d (n + 1) n q
theorem cF_stable (d : Dt) : ∀ (n f : Nat), n < f → ∀ q, cF d f n q = cD d n q := by
  intro n
  induction n using Nat.strongRecOn with | _ n ih =>
  intro f hf q
  obtain ⟨f, rfl⟩ : ∃ g, f = g + 1 := ⟨f - 1, by omega⟩
  show sumN d.ranks.length (fun sym => termD d (cF d f) sym n q) = sumN d.ranks.length (fun sym => termD d (cF d n) sym n q)
  refine sumN_congr fun sym _ => termD_congr (fun i hi q => ?_) q
  rw [ih i hi f (by omega), ih i hi n hi]
theorem cD_eq (d : Dt) (n : Nat) (q : Int) : cD d n q = sumN d.ranks.length fun sym => termD d (cD d) sym n q := by
  show sumN d.ranks.length (fun sym => termD d (cF d n) sym n q) = _
  exact sumN_congr fun sym _ => termD_congr (fun i hi q => cF_stable d i n hi q) q
/-- The part of a row up to a symbol. -/
def partD (d : Dt) (n k : Nat) (q : Int) : Nat := sumN k fun sym => termD d (cD d) sym n q
theorem partD_all (d : Dt) (n : Nat) (q : Int) : partD d n d.ranks.length q = cD d n q := (cD_eq d n q).symm
theorem term_bound {d : Dt} (hn : d.acc.length ≤ 8) {n : Nat} (h64 : n ≤ 64) (ih : ∀ i, i < n → ∀ q, cD d i q ≤ 32768 ^ i) (sym : Nat) (q : Int) : termD d (cD d) sym n q * 8 ≤ 32768 ^ n := by
  unfold termD
  by_cases h0 : n = 0
  · rw [if_pos h0, Nat.zero_mul]; exact Nat.zero_le _
  rw [if_neg h0]
  obtain ⟨m, rfl⟩ : ∃ m, n = m + 1 := ⟨n - 1, by omega⟩
  have hp : 1 ≤ 32768 ^ m := Nat.one_le_pow _ _ (by decide)
  rw [Nat.pow_succ]
  split
  · split
    · split <;> omega
    · omega
  split
  · have : sumN d.acc.length (fun x => term1 d (cD d) sym (m + 1) q (x : Int)) ≤ d.acc.length * 32768 ^ m := sumN_bound fun x _ => by
      unfold term1
      split
      · exact ih m (by omega) _
      · exact Nat.zero_le _
    have h2 : d.acc.length * 32768 ^ m ≤ 8 * 32768 ^ m := Nat.mul_le_mul_right _ hn
    omega
  · have h1 : ∀ j, j < m + 1 - 2 → (sumN d.acc.length fun x => sumN d.acc.length fun y => term2 d (cD d) sym (m + 1) (j + 1) q (x : Int) (y : Int)) ≤ 64 * 32768 ^ m := fun j hj => by
      have hb : ∀ x y : Int, term2 d (cD d) sym (m + 1) (j + 1) q x y ≤ 32768 ^ m := fun x y => by
        unfold term2
        split
        · refine Nat.le_trans (Nat.mul_le_mul (ih (j + 1) (by omega) x) (ih (m + 1 - 1 - (j + 1)) (by omega) y)) ?_
          rw [← Nat.pow_add]
          exact Nat.pow_le_pow_right (by decide) (by omega)
        · exact Nat.zero_le _
      have h2 : ∀ x, x < d.acc.length → (sumN d.acc.length fun y => term2 d (cD d) sym (m + 1) (j + 1) q (x : Int) (y : Int)) ≤ 8 * 32768 ^ m := fun x _ => Nat.le_trans (sumN_bound fun y _ => hb _ _) (Nat.mul_le_mul_right _ hn)
      have h3 := sumN_bound h2
      have h4 : d.acc.length * (8 * 32768 ^ m) ≤ 8 * (8 * 32768 ^ m) := Nat.mul_le_mul_right _ hn
      omega
    have h5 := sumN_bound h1
    have h6 : (m + 1 - 2) * (64 * 32768 ^ m) ≤ 62 * (64 * 32768 ^ m) := Nat.mul_le_mul_right _ (by omega)
    omega
theorem cD_bound {d : Dt} (h8 : d.ranks.length ≤ 8) (hn : d.acc.length ≤ 8) : ∀ n, n ≤ 64 → ∀ q, cD d n q ≤ 32768 ^ n := by
  intro n
  induction n using Nat.strongRecOn with | _ n ih =>
  intro h64 q
  rw [cD_eq]
  have h1 := fun sym => term_bound hn h64 (fun i hi => ih i hi (by omega)) sym q
  have h2 : sumN d.ranks.length (fun sym => termD d (cD d) sym n q) * 8 ≤ d.ranks.length * 32768 ^ n := by
    have key : ∀ k, sumN k (fun sym => termD d (cD d) sym n q) * 8 ≤ k * 32768 ^ n := by
      intro k
      induction k with
      | zero => simp [sumN_zero]
      | succ k ihk => rw [sumN_succ, Nat.succ_mul]; have := h1 k; omega
    exact key _
  have h3 : d.ranks.length * 32768 ^ n ≤ 8 * 32768 ^ n := Nat.mul_le_mul_right _ h8
  omega
theorem words31 : 4294967296 ^ 31 ≤ bigN := by
  rw [bigN_eq]
  exact Nat.pow_le_pow_right (by decide) (by rw [kWords_eq]; decide)
theorem pow64_big {n : Nat} (h : n ≤ 64) : 64 * 32768 ^ n < bigN := by
  have h1 : 32768 ^ n ≤ 32768 ^ 64 := Nat.pow_le_pow_right (by decide) h
  have h3 : 64 * 32768 ^ 64 < 4294967296 ^ 31 := by decide
  exact Nat.lt_of_lt_of_le (Nat.lt_of_le_of_lt (Nat.mul_le_mul_left _ h1) h3) words31
theorem cD_big {d : Dt} (h8 : d.ranks.length ≤ 8) (hn : d.acc.length ≤ 8) {n : Nat} (h : n ≤ 64) (q : Int) : 64 * cD d n q < bigN :=
  Nat.lt_of_le_of_lt (Nat.mul_le_mul_left _ (cD_bound h8 hn n h q)) (pow64_big h)
/-! ### Maps of numbers -/
def CntM (H : View) (n : Nat) (kvs : KVs) (f : Int → Nat) : Prop := (kvs.map (·.1)).Nodup ∧ (∀ q ∈ kvs.map (·.1), 0 ≤ q ∧ q < (n : Int)) ∧ (∀ q, NatAt H ((lookI kvs q).getD natZ) (f q)) ∧ ∀ q, lookI kvs q = none → f q = 0
theorem natAt_zero (H : View) : NatAt H natZ 0 := ⟨none, 0, 0, rfl, [], ⟨fun w hw => (by cases hw), by simp⟩, rfl, ⟨none, 0, rfl, .inl ⟨rfl, rfl⟩⟩, fun w hw => by cases hw⟩
theorem CntM.zero (H : View) (n : Nat) : CntM H n [] fun _ => 0 := ⟨List.nodup_nil, fun q h => (by cases h), fun _ => natAt_zero H, fun _ _ => rfl⟩
theorem CntM.mono {H H' : View} {n : Nat} {kvs : KVs} {f : Int → Nat} (h : CntM H n kvs f) (hle : VLe H H') : CntM H' n kvs f := ⟨h.1, h.2.1, fun q => (h.2.2.1 q).mono hle, h.2.2.2⟩
theorem CntM.congr {H : View} {n : Nat} {kvs : KVs} {f g : Int → Nat} (h : CntM H n kvs f) (e : ∀ q, f q = g q) : CntM H n kvs g := by rwa [show g = f from funext fun q => (e q).symm]
theorem CntM.add {H : View} {n : Nat} {kvs : KVs} {f g : Int → Nat} (h : CntM H n kvs f) {q : Int} {v : Value} {k : Nat} (hq : 0 ≤ q ∧ q < (n : Int)) (hv : NatAt H v (f q + k)) (hg : ∀ p, g p = f p + if q = p then k else 0) : CntM H n (setI kvs q v) g := by
  obtain ⟨h1, h2, h3, h4⟩ := h
  refine ⟨setI_keys _ _ h1, fun p hp => ?_, fun p => ?_, fun p hp => ?_⟩
  · obtain ⟨e, he, rfl⟩ := List.mem_map.1 hp
    rcases (setI_mem h1).1 he with rfl | ⟨_, he⟩
    · exact hq
    · exact h2 _ (List.mem_map.2 ⟨e, he, rfl⟩)
  · rw [lookI_setI h1, hg]
    by_cases e : p = q
    · subst e; rw [if_pos rfl, if_pos rfl]; exact hv
    · rw [if_neg e, if_neg fun h => e h.symm]; exact h3 p
  · rw [lookI_setI h1] at hp
    by_cases e : p = q
    · rw [if_pos e] at hp; cases hp
    · rw [if_neg e] at hp
      rw [hg, h4 p hp, if_neg fun h => e h.symm]
theorem CntM.key {H : View} {n : Nat} {kvs : KVs} {f : Int → Nat} (h : CntM H n kvs f) {i : Nat} {q : Int} {u : Value} (hk : kvs[i]? = some (q, u)) : (0 ≤ q ∧ q < (n : Int)) ∧ NatAt H u (f q) := by
  have hl := lookI_mem h.1 (List.mem_of_getElem? hk)
  have h3 := h.2.2.1 q
  rw [hl] at h3
  exact ⟨h.2.1 q (List.mem_map.2 ⟨_, List.mem_of_getElem? hk, rfl⟩), h3⟩
/-- Over all keys, in any order. -/
theorem CntM.sum {H : View} {n : Nat} {kvs : KVs} {f : Int → Nat} (h : CntM H n kvs f) {ks : List Int} (hp : ks.Perm (kvs.map (·.1))) (g : Int → Nat) (hg : ∀ q, f q = 0 → g q = 0) : (ks.map g).sum = sumN n fun x => g (x : Int) := by
  obtain ⟨h1, h2, _, h4⟩ := h
  have e1 : (ks.map g).sum = ((kvs.map (·.1)).map g).sum := (hp.map g).sum_nat
  rw [e1]
  have key : ∀ (n : Nat) (l : List Int), l.Nodup → (∀ q ∈ l, 0 ≤ q ∧ q < (n : Int)) → (∀ q : Int, 0 ≤ q ∧ q < (n : Int) → q ∉ l → g q = 0) → (l.map g).sum = sumN n fun x => g (x : Int) := by
    intro n
    induction n with
    | zero =>
      intro l _ hl _
      cases l with
      | nil => rfl
      | cons x l => have := hl x List.mem_cons_self; omega
    | succ n ih =>
      intro l hn hl hz
      rw [sumN_succ]
      by_cases hm : (n : Int) ∈ l
      · have hperm := List.perm_cons_erase hm
        rw [((hperm.map g).sum_nat : (l.map g).sum = _), List.map_cons, List.sum_cons]
        have hne := hn.erase (n : Int)
        have hnm : (n : Int) ∉ l.erase (n : Int) := fun hc => (List.nodup_cons.1 (hperm.nodup_iff.1 hn)).1 hc
        have hmem : ∀ q, q ∈ l.erase (n : Int) ↔ q ∈ l ∧ q ≠ n := fun q => by
          constructor
          · intro hq; exact ⟨List.mem_of_mem_erase hq, fun e => hnm (e ▸ hq)⟩
          · rintro ⟨hq, he⟩; exact (List.mem_erase_of_ne he).2 hq
        have := ih (l.erase (n : Int)) hne (fun q hq => by obtain ⟨a1, a2⟩ := (hmem q).1 hq; have := hl q a1; omega) (fun q hb hq => hz q (by omega) fun hc => hq ((hmem q).2 ⟨hc, by omega⟩))
        rw [this]; omega
      · rw [ih l hn (fun q hq => by have := hl q hq; have : q ≠ n := fun e => hm (e ▸ hq); omega) (fun q hb => hz q (by omega)), hz _ (by omega) hm]
        rfl
  refine key n _ h1 h2 fun q _ hq => hg q (h4 q ?_)
  cases hl : lookI kvs q with
  | none => rfl
  | some v => exact absurd (lookI_isSome.1 (by rw [hl]; rfl)) hq
end Pal

/-
  Counting: partial sums asx the walk meets them. Own work. No statement of the seat is proved here.
-/
namespace Pal
open Go Go.Proofs Go.Proofs.X
theorem msGet {ms : List Value} {i off : Nat} {v : Value} (h : ms[i]? = some v) (ho : off = i) : ms.toArray[off]? = some v := by subst ho; simpa using h
theorem NatAt.one {H : View} {v : Value} {n : Nat} (h : NatAt H v n) : ∃ xa k cp, v = .agg #[.slice xa k cp] ∧ RepN H (.slice xa k cp) n := h
def add1 (d : Dt) (sym n : Nat) (p0 : Int → Nat) (ks : List Int) (q : Int) : Nat := p0 q + (ks.map fun x => term1 d (cD d) sym n q x).sum
def add2 (d : Dt) (sym n : Nat) (p0 : Int → Nat) (j : Nat) (q : Int) : Nat := p0 q + sumN j fun j => sumN d.acc.length fun x => sumN d.acc.length fun y => term2 d (cD d) sym n (j + 1) q (x : Int) (y : Int)
def add3 (d : Dt) (sym n : Nat) (p0 : Int → Nat) (j : Nat) (ks : List Int) (q : Int) : Nat := add2 d sym n p0 j q + (ks.map fun x => sumN d.acc.length fun y => term2 d (cD d) sym n (j + 1) q x (y : Int)).sum
def add4 (d : Dt) (sym n : Nat) (p0 : Int → Nat) (j : Nat) (ks : List Int) (x : Int) (ls : List Int) (q : Int) : Nat := add3 d sym n p0 j ks q + (ls.map fun y => term2 d (cD d) sym n (j + 1) q x y).sum
theorem add1_snoc (d : Dt) (sym n : Nat) (p0 : Int → Nat) (ks : List Int) (x q : Int) : add1 d sym n p0 (ks ++ [x]) q = add1 d sym n p0 ks q + if atM d (sym : Int) [x] = q then cD d (n - 1) x else 0 := by
  unfold add1; rw [List.map_append, List.sum_append]; simp [term1]; omega
theorem add4_snoc (d : Dt) (sym n : Nat) (p0 : Int → Nat) (j : Nat) (ks : List Int) (x : Int) (ls : List Int) (y q : Int) : add4 d sym n p0 j ks x (ls ++ [y]) q = add4 d sym n p0 j ks x ls q + if atM d (sym : Int) [x, y] = q then cD d (j + 1) x * cD d (n - 1 - (j + 1)) y else 0 := by
  unfold add4; rw [List.map_append, List.sum_append]; simp [term2]; omega
theorem add1_all {H : View} {d : Dt} {sym n : Nat} {p0 : Int → Nat} {kvs : KVs} {ks : List Int} (h : CntM H d.acc.length kvs (cD d (n - 1))) (hp : ks.Perm (kvs.map (·.1))) (h0 : n ≠ 0) (hr : d.ranks.getD sym 0 = 1) (q : Int) : add1 d sym n p0 ks q = p0 q + termD d (cD d) sym n q := by
  unfold add1 termD
  rw [if_neg h0, if_neg (by omega), if_pos hr, h.sum hp (fun x => term1 d (cD d) sym n q x) (fun x hx => by unfold term1; rw [hx]; split <;> rfl)]
theorem add3_snoc {H : View} {d : Dt} {sym n : Nat} {p0 : Int → Nat} {j : Nat} {ks ls : List Int} {x : Int} {kvs : KVs} (h : CntM H d.acc.length kvs (cD d (n - 1 - (j + 1)))) (hp : ls.Perm (kvs.map (·.1))) (q : Int) : add4 d sym n p0 j ks x ls q = add3 d sym n p0 j (ks ++ [x]) q := by
  unfold add4 add3
  rw [h.sum hp (fun y => term2 d (cD d) sym n (j + 1) q x y) (fun y hy => by unfold term2; rw [hy, Nat.mul_zero]; split <;> rfl), List.map_append, List.sum_append]
  simp only [List.map_cons, List.map_nil, List.sum_cons, List.sum_nil]; omega
theorem add2_succ {H : View} {d : Dt} {sym n : Nat} {p0 : Int → Nat} {j : Nat} {ks : List Int} {kvs : KVs} (h : CntM H d.acc.length kvs (cD d (j + 1))) (hp : ks.Perm (kvs.map (·.1))) (q : Int) : add3 d sym n p0 j ks q = add2 d sym n p0 (j + 1) q := by
  unfold add3 add2
  rw [h.sum hp (fun x => sumN d.acc.length fun y => term2 d (cD d) sym n (j + 1) q x (y : Int)) (fun x hx => by
    have : ∀ y, y < d.acc.length → term2 d (cD d) sym n (j + 1) q x (y : Int) = 0 := fun y _ => by unfold term2; rw [hx, Nat.zero_mul]; split <;> rfl
    rw [sumN_congr this, sumN_const, Nat.mul_zero]), sumN_succ]
  omega
theorem add2_all {d : Dt} {sym n : Nat} {p0 : Int → Nat} (h0 : n ≠ 0) (hr : d.ranks.getD sym 0 ≠ 0) (hr1 : d.ranks.getD sym 0 ≠ 1) (q : Int) : add2 d sym n p0 (n - 2) q = p0 q + termD d (cD d) sym n q := by
  unfold add2 termD
  rw [if_neg h0, if_neg hr, if_neg hr1]
/-! ### All stays below the bound -/
theorem listsum_bound {B : Nat} {g : Int → Nat} : ∀ {l : List Int}, (∀ x, g x ≤ B) → (l.map g).sum ≤ l.length * B
  | [], _ => Nat.zero_le _
  | x :: l, h => by
    have h1 := listsum_bound (l := l) h
    have h2 := h x
    rw [List.map_cons, List.sum_cons, List.length_cons, Nat.succ_mul]; omega
theorem term1_le {d : Dt} (h8 : d.ranks.length ≤ 8) (hn : d.acc.length ≤ 8) {n : Nat} (h64 : n ≤ 64) (sym : Nat) (q x : Int) : term1 d (cD d) sym n q x ≤ 32768 ^ n := by
  unfold term1
  split
  · exact Nat.le_trans (cD_bound h8 hn _ (by omega) x) (Nat.pow_le_pow_right (by decide) (by omega))
  · exact Nat.zero_le _
theorem prod_le {d : Dt} (h8 : d.ranks.length ≤ 8) (hn : d.acc.length ≤ 8) {n i : Nat} (h64 : n ≤ 64) (hi : i < n) (x y : Int) : cD d i x * cD d (n - 1 - i) y ≤ 32768 ^ n := by
  refine Nat.le_trans (Nat.mul_le_mul (cD_bound h8 hn i (by omega) x) (cD_bound h8 hn (n - 1 - i) (by omega) y)) ?_
  rw [← Nat.pow_add]
  exact Nat.pow_le_pow_right (by decide) (by omega)
theorem term2_le {d : Dt} (h8 : d.ranks.length ≤ 8) (hn : d.acc.length ≤ 8) {n i : Nat} (h64 : n ≤ 64) (hi : i < n) (sym : Nat) (q x y : Int) : term2 d (cD d) sym n i q x y ≤ 32768 ^ n := by
  unfold term2
  split
  · exact prod_le h8 hn h64 hi x y
  · exact Nat.zero_le _
theorem pow_big2 {n K : Nat} (h : n ≤ 64) (hK : K ≤ 65536) : K * 32768 ^ n < bigN := by
  have h1 : 32768 ^ n ≤ 32768 ^ 64 := Nat.pow_le_pow_right (by decide) h
  have h3 : 65536 * 32768 ^ 64 < 4294967296 ^ 31 := by decide
  exact Nat.lt_of_lt_of_le (Nat.lt_of_le_of_lt (Nat.mul_le_mul hK h1) h3) words31
theorem add1_big {d : Dt} (h8 : d.ranks.length ≤ 8) (hn : d.acc.length ≤ 8) {n : Nat} (h64 : n ≤ 64) {p0 : Int → Nat} {q : Int} (hp : p0 q ≤ 32768 ^ n) (sym : Nat) {ks : List Int} (hk : ks.length ≤ 8) : add1 d sym n p0 ks q < bigN := by
  unfold add1
  have h1 := listsum_bound (l := ks) (g := fun x => term1 d (cD d) sym n q x) fun x => term1_le h8 hn h64 sym q x
  have h2 : ks.length * 32768 ^ n ≤ 8 * 32768 ^ n := Nat.mul_le_mul_right _ hk
  have h3 := pow_big2 (K := 9) h64 (by decide)
  omega
theorem add4_big {d : Dt} (h8 : d.ranks.length ≤ 8) (hn : d.acc.length ≤ 8) {n : Nat} (h64 : n ≤ 64) {p0 : Int → Nat} {q : Int} (hp : p0 q ≤ 32768 ^ n) (sym : Nat) {j : Nat} (hj : j + 1 < n) {ks ls : List Int} (hk : ks.length ≤ 8) (hl : ls.length ≤ 8) (x : Int) : add4 d sym n p0 j ks x ls q < bigN := by
  unfold add4 add3 add2
  have ht : ∀ i x y, i < n → term2 d (cD d) sym n i q x y ≤ 32768 ^ n := fun i x y hi => term2_le h8 hn h64 hi sym q x y
  have hy : ∀ i x, i < n → (sumN d.acc.length fun y => term2 d (cD d) sym n i q x (y : Int)) ≤ 8 * 32768 ^ n := fun i x hi => Nat.le_trans (sumN_bound fun y _ => ht i x _ hi) (Nat.mul_le_mul_right _ hn)
  have hx : ∀ i, i < n → (sumN d.acc.length fun x => sumN d.acc.length fun y => term2 d (cD d) sym n i q (x : Int) (y : Int)) ≤ 64 * 32768 ^ n := fun i hi => by
    have h1 := sumN_bound (n := d.acc.length) fun x _ => hy i (x : Int) hi
    have h2 : d.acc.length * (8 * 32768 ^ n) ≤ 8 * (8 * 32768 ^ n) := Nat.mul_le_mul_right _ hn
    omega
  have a1 := sumN_bound (n := j) fun i hi => hx (i + 1) (by omega)
  have a2 : j * (64 * 32768 ^ n) ≤ 64 * (64 * 32768 ^ n) := Nat.mul_le_mul_right _ (by omega)
  have a3 := listsum_bound (l := ks) fun x => hy (j + 1) x (by omega)
  have a4 : ks.length * (8 * 32768 ^ n) ≤ 8 * (8 * 32768 ^ n) := Nat.mul_le_mul_right _ hk
  have a5 := listsum_bound (l := ls) fun y => ht (j + 1) x y (by omega)
  have a6 : ls.length * 32768 ^ n ≤ 8 * 32768 ^ n := Nat.mul_le_mul_right _ hl
  have a7 := pow_big2 (n := n) (K := 5000) h64 (by decide)
  omega
theorem keysAt_le {kvs : KVs} {N : Nat} {seen : List Nat} (hk : (kvs.map (·.1)).Nodup) (hr : ∀ q ∈ kvs.map (·.1), 0 ≤ q ∧ q < (N : Int)) (hn : seen.Nodup) (hlt : ∀ i ∈ seen, i < kvs.length) : (keysAt kvs seen).length ≤ N := by
  refine nodup_range (keysAt_nodup hk hn hlt) fun q hq => hr q ?_
  unfold keysAt at hq
  obtain ⟨i, hi, rfl⟩ := List.mem_map.1 hq
  have := hlt i hi
  exact List.mem_map.2 ⟨kvs[i], List.getElem_mem this, by simp [List.getD, this]⟩
/-- A transition of one or two operands, asx it lies in the table. -/
theorem at_one {d : Dt} (hok : DtOk d) {sym : Nat} {x : Int} (hs : sym < d.ranks.length) (hr : d.ranks.getD sym 0 = 1) (hx : 0 ≤ x ∧ x < (d.acc.length : Int)) : ∃ (h1 : sym < d.to.length) (h2 : x.toNat < d.to[sym].length), atM d (sym : Int) [x] = d.to[sym][x.toNat] ∧ 0 ≤ atM d (sym : Int) [x] ∧ atM d (sym : Int) [x] < (d.acc.length : Int) := by
  obtain ⟨g1, g2, g3, g4⟩ := hok.at_ok (s := (sym : Int)) (l := [x]) ⟨by omega, by omega⟩ (by rw [Int.toNat_natCast, hr]; rfl) (fun y hy => by rw [List.mem_singleton.1 hy]; exact hx)
  have hp : placeM d.acc.length [x] = x := by simp [placeM]
  rw [hp] at g2
  have e : d.to.getD sym [] = d.to[sym]'(by simpa using g1) := by simp [List.getD, show sym < d.to.length by simpa using g1]
  rw [Int.toNat_natCast, e] at g2
  refine ⟨by simpa using g1, g2.2, ?_, g3, g4⟩
  unfold atM
  rw [hp, Int.toNat_natCast, e]
  simp [List.getD, g2.2]
theorem at_two {d : Dt} (hok : DtOk d) {sym : Nat} {x y : Int} (hs : sym < d.ranks.length) (hr : d.ranks.getD sym 0 = 2) (hx : 0 ≤ x ∧ x < (d.acc.length : Int)) (hy : 0 ≤ y ∧ y < (d.acc.length : Int)) : ∃ (h1 : sym < d.to.length) (h2 : (x * d.acc.length + y).toNat < d.to[sym].length), atM d (sym : Int) [x, y] = d.to[sym][(x * d.acc.length + y).toNat] ∧ (0 ≤ atM d (sym : Int) [x, y] ∧ atM d (sym : Int) [x, y] < (d.acc.length : Int)) ∧ 0 ≤ x * d.acc.length + y := by
  obtain ⟨g1, g2, g3, g4⟩ := hok.at_ok (s := (sym : Int)) (l := [x, y]) ⟨by omega, by omega⟩ (by rw [Int.toNat_natCast, hr]; rfl) (fun z hz => by
    rcases List.mem_cons.1 hz with rfl | hz
    · exact hx
    · rw [List.mem_singleton.1 hz]; exact hy)
  have hp : placeM d.acc.length [x, y] = x * d.acc.length + y := by simp [placeM]
  rw [hp] at g2
  have e : d.to.getD sym [] = d.to[sym]'(by simpa using g1) := by simp [List.getD, show sym < d.to.length by simpa using g1]
  rw [Int.toNat_natCast, e] at g2
  refine ⟨by simpa using g1, g2.2, ?_, ⟨g3, g4⟩, g2.1⟩
  unfold atM
  rw [hp, Int.toNat_natCast, e]
  simp [List.getD, g2.2]
end Pal
namespace Pal
theorem one_big : 1 < bigN := by
  have := pow_big2 (n := 0) (K := 2) (by decide) (by decide)
  omega
end Pal

/-
  All trees of a size, in the reference's order; how many of them have a given state. Own work. No statement of the seat is proved here.
-/
namespace Pal
open Go Go.Proofs Go.Proofs.X
/-- The number of trees whose state is marked. -/
def sumA (d : Dt) (n : Nat) : Nat := sumN d.acc.length fun x => if d.acc.getD x false = true then cD d n (x : Int) else 0
end Pal

/-
  All trees of a size: the lists asx the walk meets them, and their lengths. Own work. No statement of the seat is proved here.
-/
namespace Pal
open Go Go.Proofs Go.Proofs.X
def TreesAt (H : View) (v : Value) (ts : List Tr) : Prop := ∃ a cp cells, v = .slice a ts.length cp ∧ SlAt H (.slice a ts.length cp) ts.length cells ∧ RepL (RepT H) 2 ts cells
theorem TreesAt.nil (H : View) : TreesAt H (.slice none 0 0) [] := ⟨none, 0, [], rfl, ⟨none, 0, rfl, .inl ⟨rfl, rfl⟩⟩, .nil⟩
theorem RepT.one {H : View} {s b : Nat} {u : Tr} {x0 : Int} {x1 : Option Addr} {x2 x3 : Nat} {T : TypeId} {fz : Nat × Nat} (hs : i64ok (s : Int)) (hb : H b = some (.cells #[.int .i64 x0, .slice x1 x2 x3] T fz)) (hu : RepT H u [.int .i64 x0, .slice x1 x2 x3]) : RepT H (.node (s : Int) [u]) [.int .i64 (s : Int), .slice (some ⟨b, 0, none⟩) 1 1] :=
  .of hs ⟨_, _, rfl, .inr ⟨b, 0, rfl, At.of hb⟩⟩ (RepL.one hu rfl)
theorem RepT.pair {H : View} {s b : Nat} {u v : Tr} {x0 y0 : Int} {x1 y1 : Option Addr} {x2 x3 y2 y3 : Nat} {T : TypeId} {fz : Nat × Nat} (hs : i64ok (s : Int)) (hb : H b = some (.cells #[.int .i64 x0, .slice x1 x2 x3, .int .i64 y0, .slice y1 y2 y3] T fz)) (hu : RepT H u [.int .i64 x0, .slice x1 x2 x3]) (hv : RepT H v [.int .i64 y0, .slice y1 y2 y3]) : RepT H (.node (s : Int) [u, v]) [.int .i64 (s : Int), .slice (some ⟨b, 0, none⟩) 2 2] :=
  .of hs ⟨_, _, rfl, .inr ⟨b, 0, rfl, At.of hb⟩⟩ ((RepL.one hu rfl).snoc hv rfl)
end Pal

/-
  Counting trees of a size: the error, bounds, the array of maps. Own work. No statement of the seat is proved here.
-/
namespace Pal
open Go Go.Proofs Go.Proofs.X
theorem repN_zero (H : View) : RepN H (.slice none 0 0) 0 := ⟨[], ⟨fun w hw => (by cases hw), by simp⟩, rfl, ⟨none, 0, rfl, .inl ⟨rfl, rfl⟩⟩, fun w hw => by cases hw⟩
def countErr (d : Dt) (size : Int) : Int := if dtErr d ≠ 0 then dtErr d else if size < 0 ∨ 64 < size then 2 else 0
theorem ms_put {ms : List Value} {i off b : Nat} (h : i < ms.length) (ho : off = i) : putCells ms.toArray off (mp b).cells.toList = (ms.set i (mp b)).toArray := by
  subst ho
  have e : putCells ms.toArray off (mp b).cells.toList = ms.toArray.setIfInBounds off (mp b) := putCells_one (by simpa using h)
  rw [e]; simp
theorem partD_bound {d : Dt} (h8 : d.ranks.length ≤ 8) (hn : d.acc.length ≤ 8) {n k : Nat} (h : n ≤ 64) (hk : k ≤ d.ranks.length) (q : Int) : partD d n k q ≤ 32768 ^ n := by
  refine Nat.le_trans (sumN_mono _ hk) ?_
  have := cD_bound h8 hn n h q
  rwa [← partD_all] at this
theorem sumk_big {d : Dt} (h8 : d.ranks.length ≤ 8) (hn : d.acc.length ≤ 8) {n : Nat} (h64 : n ≤ 64) {ks : List Int} (hk : ks.length ≤ 8) : (ks.map fun q => if d.acc.getD q.toNat false = true then cD d n q else 0).sum < bigN := by
  have h1 := listsum_bound (l := ks) (g := fun q => if d.acc.getD q.toNat false = true then cD d n q else 0) (B := 32768 ^ n) fun q => by
    split
    · exact cD_bound h8 hn n h64 q
    · exact Nat.zero_le _
  have h2 : ks.length * 32768 ^ n ≤ 8 * 32768 ^ n := Nat.mul_le_mul_right _ hk
  have h3 := pow_big2 (K := 9) h64 (by decide)
  omega
theorem sumA_keys {H : View} {d : Dt} {n : Nat} {kvs : KVs} {ks : List Int} (h : CntM H d.acc.length kvs (cD d n)) (hp : ks.Perm (kvs.map (·.1))) : (ks.map fun q => if d.acc.getD q.toNat false = true then cD d n q else 0).sum = sumA d n := by
  rw [h.sum hp _ fun q hq => by rw [hq]; split <;> rfl]
  rfl
theorem sumA_big {d : Dt} (h8 : d.ranks.length ≤ 8) (hn : d.acc.length ≤ 8) {n : Nat} (h64 : n ≤ 64) : sumA d n < bigN := by
  have h1 := sumN_bound (n := d.acc.length) (B := 32768 ^ n) (f := fun x => if d.acc.getD x false = true then cD d n (x : Int) else 0) fun x _ => by
    split
    · exact cD_bound h8 hn n h64 _
    · exact Nat.zero_le _
  have h2 : d.acc.length * 32768 ^ n ≤ 8 * 32768 ^ n := Nat.mul_le_mul_right _ hn
  have h3 := pow_big2 (K := 9) h64 (by decide)
  unfold sumA
  omega
def evenD : Dt := ⟨[0, 2], [false, true], [[0], [1, 0, 0, 1]]⟩
theorem even_three : sumA evenD 3 = 1 := by decide +kernel
theorem even_ok : countErr evenD 3 = 0 := by decide +kernel
end Pal

/-
  The complement of a deterministic automaton; counts of accepted trees. Own work. No statement of the seat is proved here.
-/
namespace Pal
open Go Go.Proofs Go.Proofs.X
section
variable {P : Program} {n : Nat} {c : Cx} {Q : Exit → Act → World → Prop} {l : KL} {hl : HL} {H : View} {ops : Array Oper} {rest : List Oper} {ty : TypeId}
end
end Pal
namespace Pal
open Go Go.Proofs Go.Proofs.X
theorem three_get {n : Nat} {r : Int} {off : Nat} (h : 0 ≤ r ∧ r ≤ 2) (ho : off = r.toNat) : (#[Value.int .i64 1, .int .i64 (n : Int), .int .i64 ((n : Int) * n)])[off]? = some (.int .i64 (([1, (n : Int), (n : Int) * n]).getD r.toNat 0)) := by
  subst ho
  obtain rfl | rfl | rfl : r = 0 ∨ r = 1 ∨ r = 2 := by omega
  all_goals rfl
end Pal
namespace Pal
open Go Go.Proofs Go.Proofs.X
end Pal

/-
  Natural numbers asx decimal digits, the least digit first: the reference's numbers. Own work. No statement of the seat is proved here.
-/
namespace Pal
open Go Go.Proofs Go.Proofs.X
def valT : List Nat → Nat
  | [] => 0
  | w :: ws => w + 10 * valT ws
def DigOk (ws : List Nat) : Prop := ∀ w ∈ ws, w < 10
def CanT (ws : List Nat) : Prop := DigOk ws ∧ ws.getLast? ≠ some 0
theorem valT_append (xs ys : List Nat) : valT (xs ++ ys) = valT xs + 10 ^ xs.length * valT ys := by
  induction xs with
  | nil => simp [valT]
  | cons x xs ih =>
    simp only [List.cons_append, valT, ih, List.length_cons, Nat.pow_succ]
    rw [Nat.mul_add, Nat.add_assoc, Nat.mul_comm (10 ^ xs.length) 10, Nat.mul_assoc]
theorem valT_snoc (xs : List Nat) (y : Nat) : valT (xs ++ [y]) = valT xs + 10 ^ xs.length * y := by
  rw [valT_append]; simp [valT]
theorem valT_lt {ws : List Nat} (h : DigOk ws) : valT ws < 10 ^ ws.length := by
  induction ws with
  | nil => simp [valT]
  | cons w ws ih =>
    have h1 := h w List.mem_cons_self
    have h2 := ih fun x hx => h x (List.mem_cons_of_mem _ hx)
    simp only [valT, List.length_cons, Nat.pow_succ]
    omega
theorem valT_zeros (n : Nat) : valT (List.replicate n 0) = 0 := by
  induction n with
  | zero => rfl
  | succ n ih => simp [List.replicate_succ, valT, ih]
/-- Trailing zeros do not count. -/
theorem valT_take {ws : List Nat} {k : Nat} (hz : ∀ j (h : j < ws.length), k ≤ j → ws[j] = 0) : valT (ws.take k) = valT ws := by
  have e : ws = ws.take k ++ List.replicate (ws.length - k) 0 := by
    refine List.ext_getElem (by simp; omega) fun i h1 h2 => ?_
    by_cases hi : i < k
    · rw [List.getElem_append_left (by rw [List.length_take]; omega), List.getElem_take]
    · rw [List.getElem_append_right (by rw [List.length_take]; omega), List.getElem_replicate]
      exact hz i h1 (by omega)
  conv => rhs; rw [e]
  rw [valT_append, valT_zeros, Nat.mul_zero, Nat.add_zero]
theorem valT_pos {ws : List Nat} (h : ws ≠ []) (hl : ws.getLast? ≠ some 0) : 0 < valT ws := by
  obtain ⟨xs, y, rfl⟩ : ∃ xs y, ws = xs ++ [y] := ⟨ws.dropLast, ws.getLast h, (List.dropLast_concat_getLast h).symm⟩
  rw [valT_snoc]
  have hy : y ≠ 0 := by intro e; subst e; simp at hl
  have h1 : 0 < 10 ^ xs.length := Nat.pow_pos (by decide)
  have := Nat.mul_pos h1 (Nat.pos_of_ne_zero hy)
  omega
theorem CanT.tail {w : Nat} {ws : List Nat} (h : CanT (w :: ws)) : CanT ws := by
  refine ⟨fun x hx => h.1 x (List.mem_cons_of_mem _ hx), ?_⟩
  cases ws with
  | nil => simp
  | cons x xs => have := h.2; rw [List.getLast?_cons_cons] at this; exact this
/-- A number has one form alone. -/
theorem CanT.uniq : ∀ {xs ys : List Nat}, CanT xs → CanT ys → valT xs = valT ys → xs = ys
  | [], [], _, _, _ => rfl
  | [], y :: ys, _, h2, h => by
    have := valT_pos (List.cons_ne_nil y ys) h2.2
    rw [← h] at this; simp [valT] at this
  | x :: xs, [], h1, _, h => by
    have := valT_pos (List.cons_ne_nil x xs) h1.2
    rw [h] at this; simp [valT] at this
  | x :: xs, y :: ys, h1, h2, h => by
    have a1 := h1.1 x List.mem_cons_self
    have a2 := h2.1 y List.mem_cons_self
    simp only [valT] at h
    have e1 : x = y := by omega
    have e2 : valT xs = valT ys := by omega
    rw [e1, CanT.uniq h1.tail h2.tail e2]
theorem CanT.take {ws : List Nat} (h : DigOk ws) {k : Nat} (hk : k ≤ ws.length) (hl : k = 0 ∨ ∃ h : k - 1 < ws.length, ws[k - 1] ≠ 0) : CanT (ws.take k) := by
  refine ⟨fun x hx => h x (List.mem_of_mem_take hx), ?_⟩
  rcases hl with rfl | ⟨h1, h2⟩
  · simp
  · by_cases h0 : k = 0
    · subst h0; simp
    · rw [List.getLast?_eq_getElem?, List.length_take, Nat.min_eq_left hk, List.getElem?_take]
      rw [if_pos (by omega), List.getElem?_eq_getElem h1]
      simpa using h2
/-- The value of the first words; words that lack count asx zero. -/
def valTN (ws : List Nat) (i : Nat) : Nat := valT ((List.range i).map fun j => ws.getD j 0)
theorem valTN_succ (ws : List Nat) (i : Nat) : valTN ws (i + 1) = valTN ws i + 10 ^ i * ws.getD i 0 := by
  unfold valTN
  rw [range_map_succ, valT_snoc]
  simp
theorem valTN_all {ws : List Nat} {i : Nat} (h : ws.length ≤ i) : valTN ws i = valT ws := by
  have e : (List.range i).map (fun j => ws.getD j 0) = ws ++ List.replicate (i - ws.length) 0 := by
    refine List.ext_getElem (by simp; omega) fun j h1 h2 => ?_
    by_cases hj : j < ws.length
    · rw [List.getElem_append_left hj]; simp [List.getD, hj]
    · rw [List.getElem_append_right (by omega)]; simp [List.getD, hj]
  unfold valTN
  rw [e, valT_append, valT_zeros, Nat.mul_zero, Nat.add_zero]
theorem valT_set : ∀ {ws : List Nat} {j : Nat} (h : j < ws.length) (v : Nat), valT (ws.set j v) + 10 ^ j * ws[j] = valT ws + 10 ^ j * v
  | w :: ws, 0, _, v => by simp [valT]; omega
  | w :: ws, j + 1, h, v => by
    have ih := valT_set (ws := ws) (j := j) (by simpa using h) v
    simp only [List.set_cons_succ, valT, List.getElem_cons_succ, Nat.pow_succ]
    have e1 : ∀ z, 10 ^ j * 10 * z = 10 * (10 ^ j * z) := fun z => by rw [Nat.mul_comm (10 ^ j) 10, Nat.mul_assoc]
    rw [e1, e1]
    omega

/-! ### Digits in the heap -/
def digV (ws : List Nat) : List Value := ws.map fun (w : Nat) => Value.int .i64 (w : Int)
theorem digV_snoc (ws : List Nat) (w : Nat) : digV (ws ++ [w]) = digV ws ++ [.int .i64 (w : Int)] := by simp [digV]
def DW (H : View) (v : Value) (ws : List Nat) : Prop := SlAt H v ws.length (digV ws) ∧ DigOk ws
theorem DW.mono {H H' : View} {v : Value} {ws : List Nat} (h : DW H v ws) (hle : VLe H H') : DW H' v ws := ⟨h.1.mono hle, h.2⟩
theorem DW.shape {H : View} {v : Value} {ws : List Nat} (h : DW H v ws) : ∃ a cap, v = .slice a ws.length cap := by
  obtain ⟨⟨a, cap, h1, _⟩, _⟩ := h
  exact ⟨a, cap, h1⟩
theorem DW.get {H : View} {a : Option Addr} {k cap : Nat} {ws : List Nat} (h : DW H (.slice a k cap) ws) {i : Nat} (hi : i < ws.length) : ∃ b off, a = some ⟨b, off, none⟩ ∧ At H b (off + i * 1) [.int .i64 (ws[i] : Int)] := by
  obtain ⟨⟨a', c', h1, h2⟩, _⟩ := h
  cases h1
  rcases h2 with ⟨h2, _⟩ | ⟨b, off, rfl, h2⟩
  · omega
  · have := h2.one (j := i) (v := .int .i64 (ws[i] : Int)) (by simp [digV, hi])
    exact ⟨b, off, rfl, by simpa using this⟩
/-- A number of the reference. -/
def RepD (H : View) (v : Value) (n : Nat) : Prop := ∃ ws, CanT ws ∧ valT ws = n ∧ DW H v ws
theorem RepD.mono {H H' : View} {v : Value} {n : Nat} (h : RepD H v n) (hle : VLe H H') : RepD H' v n := by
  obtain ⟨ws, h1, h2, h3⟩ := h
  exact ⟨ws, h1, h2, h3.mono hle⟩
theorem RepD.zero (H : View) : RepD H (.slice none 0 0) 0 := ⟨[], ⟨(fun w hw => by cases hw), by simp⟩, rfl, ⟨none, 0, rfl, .inl ⟨rfl, rfl⟩⟩, (fun w hw => by cases hw)⟩
theorem RepD.shape {H : View} {v : Value} {n : Nat} (h : RepD H v n) : ∃ a k cap, v = .slice a k cap := by
  obtain ⟨ws, _, _, h3⟩ := h
  obtain ⟨a, cap, rfl⟩ := h3.shape
  exact ⟨a, _, cap, rfl⟩
/-- The length is that of the number. -/
theorem len_lt {ws : List Nat} (h : CanT ws) {k : Nat} (hv : valT ws < 10 ^ k) : ws.length ≤ k := by
  rcases Nat.eq_zero_or_pos ws.length with h0 | h0
  · omega
  · obtain ⟨xs, y, rfl⟩ : ∃ xs y, ws = xs ++ [y] := ⟨ws.dropLast, ws.getLast (by intro e; subst e; simp at h0), (List.dropLast_concat_getLast _).symm⟩
    rw [valT_snoc] at hv
    have hy : y ≠ 0 := by intro e; subst e; exact h.2 (by simp)
    have h1 : 10 ^ xs.length ≤ 10 ^ xs.length * y := Nat.le_mul_of_pos_right _ (Nat.pos_of_ne_zero hy)
    have h2 : 10 ^ xs.length < 10 ^ k := by omega
    have := (Nat.pow_lt_pow_iff_right (a := 10) (by decide)).1 h2
    simp; omega
/-! ### Sums -/
def addT (xs ys : List Nat) : Nat → List Nat × Nat
  | 0 => ([], 0)
  | n + 1 => ((addT xs ys n).1 ++ [(xs.getD n 0 + ys.getD n 0 + (addT xs ys n).2) % 10], (xs.getD n 0 + ys.getD n 0 + (addT xs ys n).2) / 10)
theorem addT_len (xs ys : List Nat) : ∀ n, (addT xs ys n).1.length = n
  | 0 => rfl
  | n + 1 => by simp [addT, addT_len xs ys n]
theorem dig_getD {xs : List Nat} (h : DigOk xs) (i : Nat) : xs.getD i 0 < 10 := by
  by_cases hi : i < xs.length
  · have := h _ (List.getElem_mem hi); simpa [List.getD, hi] using this
  · simp [List.getD, hi]
theorem addT_ok {xs ys : List Nat} (hx : DigOk xs) (hy : DigOk ys) : ∀ n, DigOk (addT xs ys n).1 ∧ (addT xs ys n).2 ≤ 1
  | 0 => ⟨fun w hw => by simp [addT] at hw, Nat.zero_le _⟩
  | n + 1 => by
    obtain ⟨h1, h2⟩ := addT_ok hx hy n
    have h3 := dig_getD hx n
    have h4 := dig_getD hy n
    simp only [addT]
    refine ⟨fun w hw => ?_, by omega⟩
    rcases List.mem_append.1 hw with hw | hw
    · exact h1 w hw
    · simp at hw; subst hw; omega
theorem addT_val (xs ys : List Nat) : ∀ n, valT (addT xs ys n).1 + 10 ^ n * (addT xs ys n).2 = valTN xs n + valTN ys n
  | 0 => by simp [addT, valT, valTN]
  | n + 1 => by
    have ih := addT_val xs ys n
    rw [valTN_succ, valTN_succ]
    simp only [addT]
    rw [valT_snoc, addT_len]
    generalize (addT xs ys n).2 = c at ih ⊢
    generalize xs.getD n 0 = x
    generalize ys.getD n 0 = y
    have e : 10 ^ n * ((x + y + c) % 10) + 10 ^ (n + 1) * ((x + y + c) / 10) = 10 ^ n * (x + y + c) := by
      rw [Nat.pow_succ, Nat.mul_assoc, ← Nat.mul_add, Nat.mod_add_div]
    have e2 : 10 ^ n * (x + y + c) = 10 ^ n * x + 10 ^ n * y + 10 ^ n * c := by rw [Nat.mul_add, Nat.mul_add]
    omega
theorem addT_done {xs ys : List Nat} {n : Nat} (h1 : xs.length ≤ n) (h2 : ys.length ≤ n) (h3 : (addT xs ys n).2 = 0) : valT (addT xs ys n).1 = valT xs + valT ys := by
  have := addT_val xs ys n
  rw [h3, valTN_all h1, valTN_all h2] at this
  omega
/-! ### Products -/
theorem valTN_lt {xs : List Nat} (h : DigOk xs) (i : Nat) : valTN xs i < 10 ^ i := by
  unfold valTN
  have := valT_lt (ws := (List.range i).map fun j => xs.getD j 0) (fun w hw => by
    obtain ⟨j, _, rfl⟩ := List.mem_map.1 hw
    exact dig_getD h j)
  simpa using this
structure MulT (xs ys os : List Nat) (i j c : Nat) : Prop where
  len : os.length = xs.length + ys.length
  ok : DigOk os
  val : valT os + 10 ^ (i + j) * c = valTN xs i * valT ys + xs.getD i 0 * 10 ^ i * valTN ys j
  cl : c ≤ 9
theorem MulT.start (xs ys : List Nat) : MulT xs ys (List.replicate (xs.length + ys.length) 0) 0 0 0 :=
  ⟨by simp, fun w hw => by rw [List.eq_of_mem_replicate hw]; decide, by rw [valT_zeros]; simp [valTN, valT], by decide⟩
theorem MulT.fits {xs ys os : List Nat} {i j c : Nat} (h : MulT xs ys os i j c) (hx : DigOk xs) (hy : DigOk ys) (hi : i < xs.length) (hw : j < ys.length ∨ 0 < c) : j ≤ ys.length ∧ i + j < os.length := by
  rw [h.len]
  by_cases hj : j < ys.length
  · omega
  · have hc : 0 < c := by omega
    have hv := h.val
    rw [valTN_all (i := j) (by omega)] at hv
    have h1 := valTN_lt hx (i + 1)
    rw [valTN_succ] at h1
    have h2 := valT_lt hy
    have e : valTN xs i * valT ys + xs.getD i 0 * 10 ^ i * valT ys = (valTN xs i + 10 ^ i * xs.getD i 0) * valT ys := by
      rw [Nat.add_mul, Nat.mul_comm (xs.getD i 0)]
    rw [e] at hv
    have h3 : (valTN xs i + 10 ^ i * xs.getD i 0) * valT ys ≤ 10 ^ (i + 1) * valT ys := Nat.mul_le_mul_right _ (Nat.le_of_lt h1)
    have h4 : 10 ^ (i + 1) * valT ys < 10 ^ (i + 1) * 10 ^ ys.length := Nat.mul_lt_mul_of_pos_left h2 (Nat.pow_pos (by decide))
    rw [← Nat.pow_add] at h4
    have h5 : 10 ^ (i + j) ≤ 10 ^ (i + j) * c := Nat.le_mul_of_pos_right _ hc
    have h6 : 10 ^ (i + j) < 10 ^ (i + 1 + ys.length) := by omega
    have := (Nat.pow_lt_pow_iff_right (a := 10) (by decide)).1 h6
    omega
theorem MulT.step {xs ys os : List Nat} {i j c : Nat} (h : MulT xs ys os i j c) (hx : DigOk xs) (hy : DigOk ys) (hp : i + j < os.length) :
    os[i + j] + xs.getD i 0 * ys.getD j 0 + c ≤ 99 ∧ MulT xs ys (os.set (i + j) ((os[i + j] + xs.getD i 0 * ys.getD j 0 + c) % 10)) i (j + 1) ((os[i + j] + xs.getD i 0 * ys.getD j 0 + c) / 10) := by
  have h1 := h.ok _ (List.getElem_mem hp)
  have h2 : xs.getD i 0 * ys.getD j 0 ≤ 9 * 9 := Nat.mul_le_mul (by have := dig_getD hx i; omega) (by have := dig_getD hy j; omega)
  have h3 := h.cl
  have hset := valT_set hp ((os[i + j] + xs.getD i 0 * ys.getD j 0 + c) % 10)
  refine ⟨by omega, by rw [List.length_set]; exact h.len, fun w hw => ?_, ?_, by omega⟩
  · rcases List.mem_or_eq_of_mem_set hw with hw | hw
    · exact h.ok w hw
    · omega
  · have hv := h.val
    rw [valTN_succ]
    have e0 : i + (j + 1) = (i + j) + 1 := by omega
    rw [e0, Nat.pow_succ]
    have e1 : xs.getD i 0 * 10 ^ i * (valTN ys j + 10 ^ j * ys.getD j 0) = xs.getD i 0 * 10 ^ i * valTN ys j + 10 ^ (i + j) * (xs.getD i 0 * ys.getD j 0) := by
      rw [Nat.mul_add, Nat.pow_add]
      congr 1
      ac_rfl
    rw [e1]
    have e2 : 10 ^ (i + j) * 10 * ((os[i + j] + xs.getD i 0 * ys.getD j 0 + c) / 10) + 10 ^ (i + j) * ((os[i + j] + xs.getD i 0 * ys.getD j 0 + c) % 10) = 10 ^ (i + j) * os[i + j] + 10 ^ (i + j) * (xs.getD i 0 * ys.getD j 0) + 10 ^ (i + j) * c := by
      rw [Nat.mul_assoc, ← Nat.mul_add, Nat.add_comm (10 * _), Nat.mod_add_div, Nat.mul_add, Nat.mul_add]
    omega
theorem MulT.next {xs ys os : List Nat} {i j : Nat} (h : MulT xs ys os i j 0) (hj : ys.length ≤ j) : MulT xs ys os (i + 1) 0 0 := by
  refine ⟨h.len, h.ok, ?_, by decide⟩
  have hv := h.val
  rw [valTN_all hj] at hv
  rw [valTN_succ, Nat.add_mul]
  have e : valTN ys 0 = 0 := rfl
  rw [e, Nat.mul_zero, Nat.mul_zero]
  rw [Nat.mul_zero] at hv
  have e2 : xs.getD i 0 * 10 ^ i * valT ys = 10 ^ i * xs.getD i 0 * valT ys := by rw [Nat.mul_comm (xs.getD i 0)]
  omega
theorem MulT.done {xs ys os : List Nat} (h : MulT xs ys os xs.length 0 0) : valT os = valT xs * valT ys := by
  have hv := h.val
  rw [valTN_all (Nat.le_refl _)] at hv
  have e : valTN ys 0 = 0 := rfl
  rw [e, Nat.mul_zero, Nat.mul_zero] at hv
  omega
theorem tmod10 (v : Nat) : ((v : Nat) : Int).tmod 10 = ((v % 10 : Nat) : Int) := by rw [Int.tmod_eq_emod_of_nonneg (by omega)]; omega
theorem tdiv10 (v : Nat) : ((v : Nat) : Int).tdiv 10 = ((v / 10 : Nat) : Int) := by rw [Int.tdiv_eq_ediv_of_nonneg (by omega)]; omega
theorem wrap10 {v : Nat} (h : v ≤ 1000) : IntKind.i64.wrap (((v : Nat) : Int).tdiv 10) = ((v / 10 : Nat) : Int) := by rw [tdiv10]; exact wrap64 (by omega)
theorem addT_top {xs ys : List Nat} (hx : DigOk xs) (hy : DigOk ys) {n : Nat} (h1 : xs.length ≤ n) (h2 : ys.length ≤ n) : (addT xs ys (n + 1)).2 = 0 := by
  have h := (addT_ok hx hy n).2
  have e1 : xs.getD n 0 = 0 := by simp [List.getD, h1]
  have e2 : ys.getD n 0 = 0 := by simp [List.getD, h2]
  simp only [addT, e1, e2]
  omega
theorem RepD.of {H : View} {v : Value} {ws : List Nat} (h : CanT ws) (hw : DW H v ws) : RepD H v (valT ws) := ⟨ws, h, rfl, hw⟩
theorem RepD.words {H : View} {v : Value} {n k : Nat} (h : RepD H v n) (hk : n < 10 ^ k) : ∃ ws, DW H v ws ∧ valT ws = n ∧ ws.length ≤ k := by
  obtain ⟨ws, h1, rfl, h3⟩ := h
  exact ⟨ws, h3, rfl, len_lt h1 hk⟩
theorem digV_put {os : List Nat} {j v : Nat} {off : Nat} (h : j < os.length) (ho : off = j) : putCells (digV os).toArray off (Value.int .i64 (v : Int)).cells.toList = (digV (os.set j v)).toArray := by
  subst ho
  have e : putCells (digV os).toArray off (Value.int .i64 (v : Int)).cells.toList = (digV os).toArray.setIfInBounds off (.int .i64 (v : Int)) := putCells_one (by simpa [digV] using h)
  rw [e]; simp [digV, List.map_set]
theorem digV_made (k : Nat) : madeCells (Value.int .i64 0).cells (k * 1) = (digV (List.replicate k 0)).toArray := by
  apply Array.ext'
  simp [Value.cells, madeCells, digV, Nat.mod_one, List.map_const']
end Pal

/-
  Rows of the reference's numbers, level by level: how many trees of a size reach a state. Own work. No statement of the seat is proved here.
-/
namespace Pal
open Go Go.Proofs Go.Proofs.X
def nilD : Value := .slice none 0 0
structure DecRow (H : View) (n : Nat) (f : Nat → Nat) (cs : List Value) : Prop where
  len : cs.length = n
  at_ : ∀ q (h : q < cs.length), RepD H cs[q] (f q)
theorem DecRow.mono {H H' : View} {n : Nat} {f : Nat → Nat} {cs : List Value} (h : DecRow H n f cs) (hle : VLe H H') : DecRow H' n f cs := ⟨h.len, fun q hq => (h.at_ q hq).mono hle⟩
theorem DecRow.zero (H : View) (n : Nat) : DecRow H n (fun _ => 0) (List.replicate n nilD) := ⟨by simp, fun q hq => by rw [List.getElem_replicate]; exact RepD.zero H⟩
theorem DecRow.congr {H : View} {n : Nat} {f g : Nat → Nat} {cs : List Value} (h : DecRow H n f cs) (e : ∀ q, q < n → f q = g q) : DecRow H n g cs := ⟨h.len, fun q hq => by rw [← e q (by rw [← h.len]; exact hq)]; exact h.at_ q hq⟩
theorem DecRow.put {H : View} {n : Nat} {f g : Nat → Nat} {cs : List Value} (h : DecRow H n f cs) {q0 k : Nat} {v : Value} (hv : RepD H v (f q0 + k)) (hg : ∀ q, g q = f q + if q0 = q then k else 0) : DecRow H n g (cs.set q0 v) := by
  refine ⟨by rw [List.length_set]; exact h.len, fun q hq => ?_⟩
  rw [List.getElem_set]
  by_cases e : q0 = q
  · subst e; rw [if_pos rfl, hg, if_pos rfl]; exact hv
  · rw [if_neg e, hg, if_neg e, Nat.add_zero]
    exact h.at_ q (by simpa using hq)
/-- A level that lies in memory. -/
def LvAt (H : View) (n : Nat) (f : Nat → Nat) (v : Value) : Prop := ∃ b off cp cs, v = .slice (some ⟨b, off, none⟩) n cp ∧ At H b off cs ∧ DecRow H n f cs
theorem LvAt.mono {H H' : View} {n : Nat} {f : Nat → Nat} {v : Value} (h : LvAt H n f v) (hle : VLe H H') : LvAt H' n f v := by
  obtain ⟨b, off, cp, cs, h1, h2, h3⟩ := h
  exact ⟨b, off, cp, cs, h1, h2.mono hle, h3.mono hle⟩
theorem LvAt.congr {H : View} {n : Nat} {f g : Nat → Nat} {v : Value} (h : LvAt H n f v) (e : ∀ q, q < n → f q = g q) : LvAt H n g v := by
  obtain ⟨b, off, cp, cs, h1, h2, h3⟩ := h
  exact ⟨b, off, cp, cs, h1, h2, h3.congr e⟩
theorem LvAt.get {H : View} {n : Nat} {f : Nat → Nat} {a : Option Addr} {k cp : Nat} (h : LvAt H n f (.slice a k cp)) {q : Nat} (hq : q < n) : ∃ b off v, a = some ⟨b, off, none⟩ ∧ At H b (off + q * 1) [v] ∧ RepD H v (f q) := by
  obtain ⟨b, off, cp', cs, h1, h2, h3⟩ := h
  cases h1
  have hq' : q < cs.length := by rw [h3.len]; exact hq
  exact ⟨b, off, cs[q], rfl, by rw [Nat.mul_one]; exact h2.one (by simp [hq']), h3.at_ q hq'⟩
def Levels (H : View) (d : Dt) (cells : List Value) : Prop := ∀ z (h : z < cells.length), LvAt H d.acc.length (fun q => cD d z (q : Int)) cells[z]
theorem Levels.mono {H H' : View} {d : Dt} {cells : List Value} (h : Levels H d cells) (hle : VLe H H') : Levels H' d cells := fun z hz => (h z hz).mono hle
theorem Levels.snoc {H : View} {d : Dt} {cells : List Value} {v : Value} (h : Levels H d cells) (hv : LvAt H d.acc.length (fun q => cD d cells.length (q : Int)) v) : Levels H d (cells ++ [v]) := by
  intro z hz
  rw [List.getElem_append]
  split
  · rename_i h1; exact h z h1
  · rename_i h1
    have : z = cells.length := by simp at hz; omega
    subst this
    simpa using hv
theorem Levels.one {H : View} {d : Dt} {v : Value} (hv : LvAt H d.acc.length (fun _ => 0) v) : Levels H d [v] := by
  intro z hz
  have : z = 0 := by simpa using hz
  subst this
  refine hv.congr fun q _ => ?_
  rw [cD_eq]
  have : (fun sym => termD d (cD d) sym 0 (q : Int)) = fun _ => 0 := by funext sym; unfold termD; rw [if_pos rfl]
  rw [this, sumN_const, Nat.mul_zero]
/-! ### Partial sums -/
/-- Up to symbol s, the leaf counted. -/
def m0 (d : Dt) (n s : Nat) (q : Nat) : Nat := partD d n s (q : Int) + if d.ranks.getD s 0 = 0 ∧ n = 1 then (if atM d (s : Int) [] = (q : Int) then 1 else 0) else 0
def m1 (d : Dt) (n s x : Nat) (q : Nat) : Nat := m0 d n s q + sumN x fun x => term1 d (cD d) s n (q : Int) (x : Int)
def m1e (d : Dt) (n s : Nat) (q : Nat) : Nat := m1 d n s (if d.ranks.getD s 0 = 1 then d.acc.length else 0) q
def m2 (d : Dt) (n s j : Nat) (q : Nat) : Nat := m1e d n s q + sumN j fun j => sumN d.acc.length fun x => sumN d.acc.length fun y => term2 d (cD d) s n (j + 1) (q : Int) (x : Int) (y : Int)
def m3 (d : Dt) (n s j x : Nat) (q : Nat) : Nat := m2 d n s j q + sumN x fun x => sumN d.acc.length fun y => term2 d (cD d) s n (j + 1) (q : Int) (x : Int) (y : Int)
def m4 (d : Dt) (n s j x y : Nat) (q : Nat) : Nat := m3 d n s j x q + sumN y fun y => term2 d (cD d) s n (j + 1) (q : Int) (x : Int) (y : Int)
theorem m1_zero (d : Dt) (n s q : Nat) : m1 d n s 0 q = m0 d n s q := by unfold m1; rw [sumN_zero]; rfl
theorem m2_zero (d : Dt) (n s q : Nat) : m2 d n s 0 q = m1e d n s q := by unfold m2; rw [sumN_zero]; rfl
theorem m3_zero (d : Dt) (n s j q : Nat) : m3 d n s j 0 q = m2 d n s j q := by unfold m3; rw [sumN_zero]; rfl
theorem m4_zero (d : Dt) (n s j x q : Nat) : m4 d n s j x 0 q = m3 d n s j x q := by unfold m4; rw [sumN_zero]; rfl
theorem m1_succ (d : Dt) (n s x q : Nat) : m1 d n s (x + 1) q = m1 d n s x q + if atM d (s : Int) [(x : Int)] = (q : Int) then cD d (n - 1) (x : Int) else 0 := by
  unfold m1; rw [sumN_succ, Nat.add_assoc]; rfl
theorem m4_succ (d : Dt) (n s j x y q : Nat) : m4 d n s j x (y + 1) q = m4 d n s j x y q + if atM d (s : Int) [(x : Int), (y : Int)] = (q : Int) then cD d (j + 1) (x : Int) * cD d (n - 1 - (j + 1)) (y : Int) else 0 := by
  unfold m4; rw [sumN_succ, Nat.add_assoc]; rfl
theorem m3_succ (d : Dt) (n s j x q : Nat) : m3 d n s j (x + 1) q = m4 d n s j x d.acc.length q := by
  unfold m3 m4 m3; rw [sumN_succ, Nat.add_assoc]
theorem m2_succ (d : Dt) (n s j q : Nat) : m2 d n s (j + 1) q = m3 d n s j d.acc.length q := by
  unfold m2 m3 m2; rw [sumN_succ, Nat.add_assoc]
/-- All of a symbol is counted. -/
theorem m_all {d : Dt} {n s : Nat} (hn : 1 ≤ n) (q : Nat) : m2 d n s (if d.ranks.getD s 0 = 0 ∨ d.ranks.getD s 0 = 1 then 0 else n - 2) q = partD d n (s + 1) (q : Int) := by
  have e : partD d n (s + 1) (q : Int) = partD d n s (q : Int) + termD d (cD d) s n (q : Int) := by unfold partD; rw [sumN_succ]
  rw [e]
  unfold m2 m1e m1 m0 termD
  rw [if_neg (show ¬ n = 0 by omega)]
  generalize d.ranks.getD s 0 = r
  by_cases h0 : r = 0
  · subst h0
    by_cases h1 : n = 1 <;> simp [h1, sumN_zero]
  · by_cases h1 : r = 1
    · subst h1; simp [sumN_zero]
    · simp [h0, h1, sumN_zero]
theorem m2_mono {d : Dt} {n s j j' q : Nat} (h : j ≤ j') : m2 d n s j q ≤ m2 d n s j' q := by unfold m2; exact Nat.add_le_add_left (sumN_mono _ h) _
theorem m3_mono {d : Dt} {n s j x x' q : Nat} (h : x ≤ x') : m3 d n s j x q ≤ m3 d n s j x' q := by unfold m3; exact Nat.add_le_add_left (sumN_mono _ h) _
theorem m4_mono {d : Dt} {n s j x y y' q : Nat} (h : y ≤ y') : m4 d n s j x y q ≤ m4 d n s j x y' q := by unfold m4; exact Nat.add_le_add_left (sumN_mono _ h) _
theorem m1_mono {d : Dt} {n s x x' q : Nat} (h : x ≤ x') : m1 d n s x q ≤ m1 d n s x' q := by unfold m1; exact Nat.add_le_add_left (sumN_mono _ h) _
/-! ### All stay small -/
theorem small60 {n v : Nat} (hn : n ≤ 12) (h : v ≤ 32768 ^ n) : v < 10 ^ 60 := by
  have h1 : 32768 ^ n ≤ 32768 ^ 12 := Nat.pow_le_pow_right (by decide) hn
  have h2 : 32768 ^ 12 < 10 ^ 60 := by decide
  omega
section
variable {d : Dt} (h8 : d.ranks.length ≤ 8) (hn : d.acc.length ≤ 8) {n s : Nat} (h12 : n ≤ 12) (h1 : 1 ≤ n) (hs : s < d.ranks.length)
include h8 hn h12 h1 hs
theorem m2_small {j q : Nat} (hj : j ≤ if d.ranks.getD s 0 = 0 ∨ d.ranks.getD s 0 = 1 then 0 else n - 2) : m2 d n s j q < 10 ^ 60 := by
  refine small60 h12 (Nat.le_trans (m2_mono hj) ?_)
  rw [m_all h1]
  exact partD_bound h8 hn (by omega) (by omega) _
theorem m1_small {x q : Nat} (hx : x ≤ if d.ranks.getD s 0 = 1 then d.acc.length else 0) : m1 d n s x q < 10 ^ 60 := by
  refine Nat.lt_of_le_of_lt (m1_mono hx) ?_
  have := m2_small h8 hn h12 h1 hs (j := 0) (q := q) (Nat.zero_le _)
  rwa [m2_zero] at this
theorem m4_small {j x y q : Nat} (h2 : d.ranks.getD s 0 = 2) (hj : j + 1 ≤ n - 2) (hx : x < d.acc.length) (hy : y ≤ d.acc.length) : m4 d n s j x y q < 10 ^ 60 := by
  refine Nat.lt_of_le_of_lt (m4_mono hy) ?_
  rw [← m3_succ]
  refine Nat.lt_of_le_of_lt (m3_mono (show x + 1 ≤ d.acc.length by omega)) ?_
  rw [← m2_succ]
  exact m2_small h8 hn h12 h1 hs (by rw [if_neg (by omega)]; exact hj)
end
theorem cD_small {d : Dt} (h8 : d.ranks.length ≤ 8) (hn : d.acc.length ≤ 8) {n : Nat} (h12 : n ≤ 12) (q : Int) : cD d n q < 10 ^ 60 := small60 h12 (cD_bound h8 hn n (by omega) q)
theorem prod_small {d : Dt} (h8 : d.ranks.length ≤ 8) (hn : d.acc.length ≤ 8) {n i : Nat} (h12 : n ≤ 12) (hi : i < n) (x y : Int) : cD d i x * cD d (n - 1 - i) y < 10 ^ 60 := small60 h12 (prod_le h8 hn (by omega) hi x y)
theorem row_put {cs : List Value} {j off : Nat} {a : Option Addr} {k cp : Nat} (hj : j < cs.length) (ho : off = j) : putCells cs.toArray off (Value.slice a k cp).cells.toList = (cs.set j (.slice a k cp)).toArray := by
  subst ho
  rw [show (Value.slice a k cp).cells.toList = [Value.slice a k cp] from rfl, putCells_one (by simpa using hj)]
  simp
theorem row_made (n : Nat) : madeCells (Value.slice none 0 0).cells (n * 1) = (List.replicate n nilD).toArray := by
  apply Array.ext'
  simp [Value.cells, madeCells, nilD, Nat.mod_one, List.map_const']
/-- A leaf's state, asx it lies in the table. -/
theorem at_zero {d : Dt} (hok : DtOk d) {sym : Nat} (hs : sym < d.ranks.length) (hr : d.ranks.getD sym 0 = 0) : ∃ (h1 : sym < d.to.length) (h2 : 0 < d.to[sym].length), atM d (sym : Int) [] = d.to[sym][0] ∧ 0 ≤ atM d (sym : Int) [] ∧ atM d (sym : Int) [] < (d.acc.length : Int) := by
  obtain ⟨g1, g2, g3, g4⟩ := hok.at_ok (s := (sym : Int)) (l := []) ⟨by omega, by omega⟩ (by rw [Int.toNat_natCast, hr]; rfl) (fun y hy => by cases hy)
  have hp : placeM d.acc.length [] = 0 := by simp [placeM]
  rw [hp] at g2
  have e : d.to.getD sym [] = d.to[sym]'(by simpa using g1) := by simp [List.getD, show sym < d.to.length by simpa using g1]
  rw [Int.toNat_natCast, e] at g2
  have g5 : 0 < (d.to[sym]'(by simpa using g1)).length := by simpa using g2.2
  refine ⟨by simpa using g1, g5, ?_, g3, g4⟩
  unfold atM
  rw [hp, Int.toNat_natCast, e]
  simp [List.getD, g5]
theorem take_one {cells : List Value} {z : Nat} (h : z < cells.length) : (cells.drop z).take 1 = [cells[z]] := by
  rw [List.drop_eq_getElem_cons h]; rfl
theorem if_toNat {a : Int} (h : 0 ≤ a) (q k : Nat) : (if a = (q : Int) then k else 0) = if a.toNat = q then k else 0 := by
  by_cases e : a.toNat = q
  · rw [if_pos (by omega), if_pos e]
  · rw [if_neg (by omega), if_neg e]
theorem m1_leaf {d : Dt} {n s : Nat} (h : d.ranks.getD s 0 = 0) (h1 : n = 1) (q : Nat) : m1 d n s 0 q = partD d n s (q : Int) + if atM d (s : Int) [] = (q : Int) then 1 else 0 := by
  rw [m1_zero]; unfold m0; rw [if_pos ⟨h, h1⟩]
theorem m1_skip {d : Dt} {n s : Nat} (h : ¬ (d.ranks.getD s 0 = 0 ∧ n = 1)) (q : Nat) : partD d n s (q : Int) = m1 d n s 0 q := by
  rw [m1_zero]; unfold m0; rw [if_neg h]; rfl
theorem m2_of1 {d : Dt} {n s : Nat} (h : d.ranks.getD s 0 = 1) (q : Nat) : m1 d n s d.acc.length q = m2 d n s 0 q := by
  rw [m2_zero]; unfold m1e; rw [if_pos h]
theorem m2_of0 {d : Dt} {n s : Nat} (h : ¬ d.ranks.getD s 0 = 1) (q : Nat) : m1 d n s 0 q = m2 d n s 0 q := by
  rw [m2_zero]; unfold m1e; rw [if_neg h]
theorem m_end2 {d : Dt} {n s : Nat} (hn : 1 ≤ n) (h : d.ranks.getD s 0 = 2) (q : Nat) : m2 d n s (n - 2) q = partD d n (s + 1) (q : Int) := by
  rw [← m_all hn, if_neg (by omega)]
theorem m_end0 {d : Dt} {n s : Nat} (hn : 1 ≤ n) (h : d.ranks.getD s 0 = 0 ∨ d.ranks.getD s 0 = 1) (q : Nat) : m2 d n s 0 q = partD d n (s + 1) (q : Int) := by
  rw [← m_all hn, if_pos h]
end Pal

/-
  Calls of the library whose contracts say nothing of the draws: a frame whose first world has drawn nothing. Own work. No statement of the seat is proved here.
-/
namespace Pal
open Go Go.Proofs Go.Proofs.X Go.RowKit
def w0Z (w : World) : World := { w with drawn := 0 }
def SatZ (P : Program) (f : FuncId) (args : Array Value) (H : View) (post : Value → View → Prop) : Prop :=
  ∀ w, Has w H [] → Calls P f args w fun e w' => ∃ v H' hl', e = .returned v ∧ Ok ⟨w0Z w, H, []⟩ w' H' hl' ∧ post v H'
theorem Ok.zero {w w' : World} {H H' : View} {p : List Nat} {hl : HL} (h : Ok ⟨w, H, p⟩ w' H' hl) : Ok ⟨w0Z w, H, p⟩ w' H' hl := ⟨h.os, h.tape, h.output, Nat.zero_le _, h.size, h.old, h.vold, h.le, h.has, h.own, h.foot, h.nd⟩
theorem Ok.callZ {c : Cx} {w w' : World} {H H' : View} {hl : HL} (hz : c.w0.drawn = 0) (h : Ok c w H hl) (k : Ok ⟨w0Z w, H, []⟩ w' H' []) : Ok c w' H' hl := by
  have k2 : Ok ⟨w, H, feet []⟩ { w' with drawn := max w.drawn w'.drawn } H' [] := ⟨k.os, k.tape, k.output, Nat.le_max_left _ _, k.size, k.old, k.vold, k.le, k.has, k.own, k.foot, k.nd⟩
  have h2 : Ok c { w' with drawn := max w.drawn w'.drawn } H' ([] ++ hl) := Ok.call (p := []) (r := hl) h k2
  exact ⟨h2.os, h2.tape, h2.output, by rw [hz]; exact Nat.zero_le _, h2.size, h2.old, h2.vold, h2.le, h2.has, h2.own, h2.foot, h2.nd⟩
section rules
variable {P : Program} {n : Nat} {c : Cx} {Q : Exit → Act → World → Prop} {l : KL} {hl : HL} {H : View}
variable {ops : Array Oper} {rest : List Oper} {d : Nat} {v : Value} {op : Op} {ty : TypeId} {pos : String} {aft : Array Edge}
theorem enterZ {f : FuncId} {fn : Func} {body : Code} {n : Nat} {args : List Value} {post : Value → View → Prop}
    (hf : P.funcs[f]? = some fn) (hb : fn.body = some body) (hnt : fn.ntmps = n) (hn : Nat.ble args.length n = true)
    (h : ∀ w0, KC P n ⟨w0Z w0, H, feet []⟩ body (bodyPost P fn (RS ⟨w0Z w0, H, feet []⟩ fun v H' _ => post v H')) (args0 0 args) [] H) :
    SatZ P f args.toArray H post := by
  subst hnt
  intro w hw
  have hn' := Nat.ble_eq.mp hn
  refine calls_of_wp hf hb ?_
  have key : ({ tmps := args.toArray ++ Array.replicate (fn.ntmps - args.toArray.size) undef, defers := [] } : Act) = fr fn.ntmps fun t => args.getD t undef := by
    simp only [fr, Act.mk.injEq, and_true]
    apply Array.ext
    · simp; omega
    · intro i h1 h2
      simp at h1 h2
      rw [Array.getElem_append]
      by_cases hi : i < args.length
      · simp [hi]
      · simp [hi]
  rw [key]
  refine h w _ w ?_ hw.ok.zero
  intro t v hv
  obtain ⟨_, h2⟩ := look_args0 args 0 t v hv
  simp at h2
  have : t < args.length := (List.getElem?_eq_some_iff.1 h2).1
  exact ⟨by omega, by simp [h2]⟩
theorem K_callZ {xs : List Operand} {ats : Array TypeId} {f : FuncId} {vs : List Value} {post : Value → View → Prop} (hz : c.w0.drawn = 0)
    (hcal : callable P f = true) (hxs : evs l xs = some vs) (hdn : Nat.blt d n = true) (hS : SatZ P f vs.toArray H post)
    (h : ∀ u H', VLe H H' → post u H' → KO P n c ops Q rest ((d, u) :: l) hl H') :
    KO P n c ops Q (⟨some d, .call ⟨.value (.func f), xs.toArray, ats⟩, ty, pos, aft, none⟩ :: rest) l hl H := by
  intro ρ w hm ho
  have hhas : Has w H [] := Has.left (p := []) (r := hl) ho.hasL
  refine wpList_plain rfl fun K hK => upon_wp (R := fun v w' => ∃ H', Ok ⟨w0Z w, H, []⟩ w' H' [] ∧ post v H') ?_ ?_
  · have e1 : xs.toArray.map (fr n ρ).eval = vs.toArray := by
      apply Array.ext'; simp [hm.knows.evs hxs]
    have e2 : (fr n ρ).eval (.func f) = .func (.func f) #[] #[] := rfl
    have hr : (ex (fr n ρ).eval (.call ⟨.value (.func f), xs.toArray, ats⟩) ty).run P w = .ok (.enter f vs.toArray) w := by
      simp only [ex, execOp, resolve, e2, Deferred.ofValue, e1, Sem.run_bind, Sem.run_pure, Result.andThen_ok, invoke]
      rw [callable.run hcal]
      simp
    rw [hr]
    refine Calls.mono (hS w hhas) ?_
    rintro e w' ⟨u, H', q, rfl, ho', hpost⟩
    exact ⟨u, rfl, H', ho'.sublist (List.nil_sublist q), hpost⟩
  · rintro u w' ⟨H', hok, hpost⟩
    simp only [fr_put]
    exact hK _ _ (h u H' hok.le hpost _ _ (hm.put hdn _) (ho.callZ hz hok))
end rules
/-- The library's contracts asx calls. -/
theorem SatZ.below {P : Program} {f : FuncId} {args : Array Value} {H : View} {v : Value} (h : ∀ w, Has w H [] → Calls P f args w fun e w' => e = .returned v ∧ Below w.heap.size w w') : SatZ P f args H (fun r H' => r = v ∧ H' = H) := fun w hw =>
  Calls.mono (h w hw) fun e w' ⟨he, hb⟩ => ⟨v, H, [], he, ⟨hb.os, hb.tape, hb.output, Nat.zero_le _, hb.size, fun k hk _ => hb.block k hk, fun _ _ _ => rfl, fun _ _ h => h, fun b o hbo => by
    have := hw.has b o hbo
    rw [hb.block b (lt_of_heap this)]; exact this, fun _ he => (by cases he), fun _ hb => (by simp [feet] at hb), by simp [feet]⟩, rfl, rfl⟩
theorem Sat.still {P : Program} {f : FuncId} {args : Array Value} {H : View} {v : Value} (h : ∀ w, Has w H [] → Calls P f args w fun e w' => e = .returned v ∧ w' = w) : Sat P f args H (fun r _ => r = v) := fun w hw =>
  Calls.mono (h w hw) fun e w' ⟨he, hb⟩ => ⟨v, H, [], he, by subst hb; exact hw.ok, rfl⟩
end Pal

/-
  Strings: values, rules of the operations, decimal numerals by parts. Own work. No statement of the seat is proved here.
-/
namespace Pal
open Go Go.Proofs Go.Proofs.X
def strV (bs : List UInt8) : Value := .string ⟨bs.toArray⟩
def bytesV (bs : List UInt8) : List Value := bs.map fun b => Value.int .u8 (b.toNat : Int)
section rules
variable {P : Program} {n : Nat} {c : Cx} {Q : Exit → Act → World → Prop} {l : KL} {hl : HL} {H : View} {ty : TypeId}
theorem R_lenS {x : Operand} {t : TypeId} {bs : List UInt8} (hT : P.underlying t = some .string) (hx : ev l x = some (strV bs)) : ValOk P l H hl (.call ⟨.builtin .len, #[x], #[t]⟩) ty (.int .i64 (bs.length : Int)) := by
  intro e w hk _
  have h1 : (ByteArray.mk bs.toArray).size = bs.length := by rw [← ByteArray.size_data]; simp
  simp [ex, execOp, resolve, invoke, builtin, Builtin.len_, hk x _ hx, strV, run_underlying hT, goInt, h1]
theorem R_addS {xt yt : TypeId} {x y : Operand} {us bs : List UInt8} (hx : ev l x = some (strV us)) (hy : ev l y = some (strV bs)) (hb : us.length + bs.length ≤ 140737488355328) : ValOk P l H hl (.binOp .add xt x y yt) ty (strV (us ++ bs)) := by
  refine (fun e w hk _ => ?_)
  have s1 : (ByteArray.mk us.toArray).size = us.length := by rw [← ByteArray.size_data]; simp
  have s2 : (ByteArray.mk bs.toArray).size = bs.length := by rw [← ByteArray.size_data]; simp
  have h2 : (ByteArray.mk us.toArray) ++ (ByteArray.mk bs.toArray) = ByteArray.mk (us ++ bs).toArray := by
    apply ByteArray.ext; simp
  simp only [ex, execOp, hk x _ hx, hk y _ hy, Sem.run_bind, strV, eqGuard]
  simp [binOp, Op.stringOp, s1, s2, h2]
  omega
theorem R_eqS {xt yt : TypeId} {x y : Operand} {us bs : List UInt8} (hx : ev l x = some (strV us)) (hy : ev l y = some (strV bs)) (h : us = bs) : ValOk P l H hl (.binOp .eql xt x y yt) ty (.bool true) := by
  subst h
  refine (fun e w hk _ => ?_)
  simp only [ex, execOp, hk x _ hx, hk y _ hy, Sem.run_bind, strV, eqGuard]
  simp [binOp, Op.stringOp]
/-- Bytes of one's own, asx a string. -/
theorem R_convBS {s t et : TypeId} {x : Operand} {b off k cp : Nat} {cs : Array Value} {E : TypeId} {fz : Nat × Nat} {bs : List UInt8} (hs : P.underlying s = some (.slice et)) (he : P.underlying et = some (.int .u8)) (hd : P.underlying t = some .string) (j : Nat)
    (hx : ev l x = some (.slice (some ⟨b, off, none⟩) k cp)) (hj : hl[j]? = some (blk b (.cells cs E fz))) (hk2 : bs.length = k) (hcs : ∀ i, i < k → cs[off + i]? = (bytesV bs)[i]?) : ValOk P l H hl (.convert s t x) ty (strV bs) := by
  refine (fun e w hk ho => ?_)
  have hb : w.heap[b]? = some (.cells cs E fz) := ho.own _ (List.mem_of_getElem? hj)
  have h := run_convert_bytes_arg (P := P) w s et hs he b off k cp (bs.map fun b => (b.toNat : Int)) (by simpa using hk2) (fun i hi => by
    have h1 := hcs i hi
    have hi' : i < bs.length := by omega
    simp only [World.cell?, hb, h1, bytesV, List.getElem?_map]
    simp [hi', List.getD]) t hd
  simp only [ex, execOp, hk x _ hx]
  have e1 : strOfNums (bs.map fun b => (b.toNat : Int)) = ByteArray.mk bs.toArray := by
    unfold strOfNums; rw [List.map_map]; congr 2; conv => rhs; rw [← List.map_id bs]
    exact List.map_congr_left fun b _ => by simp
  rw [e1] at h
  simp [h, strV]
end rules
/-! ### Numerals -/
open Go.Lib in
theorem dec_small {n : Nat} (h : n < 10) : decDigits n = [UInt8.ofNat (48 + n)] := by rw [decDigits, dif_pos h]
open Go.Lib in
theorem dec_big {n : Nat} (h : ¬ n < 10) : decDigits n = decDigits (n / 10) ++ [UInt8.ofNat (48 + n % 10)] := by rw [decDigits, dif_neg h]
def chD (d : Nat) : UInt8 := UInt8.ofNat (48 + d)
/-- The numeral of a number that is told by its digits. -/
theorem dec_digits : ∀ {ws : List Nat}, CanT ws → ws ≠ [] → Go.Lib.decDigits (valT ws) = (ws.map chD).reverse
  | [], _, h => absurd rfl h
  | [w], h, _ => by
    have h1 := h.1 w (by simp)
    have : valT [w] = w := by simp [valT]
    rw [this, dec_small h1]; rfl
  | w :: x :: xs, h, _ => by
    have h1 := h.1 w (by simp)
    have h2 := valT_pos (List.cons_ne_nil x xs) h.tail.2
    have e : valT (w :: x :: xs) = w + 10 * valT (x :: xs) := rfl
    rw [e, dec_big (by omega), show (w + 10 * valT (x :: xs)) / 10 = valT (x :: xs) by omega, show (w + 10 * valT (x :: xs)) % 10 = w by omega, dec_digits h.tail (List.cons_ne_nil x xs)]
    simp [chD]
/-- So many digits, zeros ahead. -/
def padD : Nat → Nat → List UInt8
  | 0, _ => []
  | k + 1, b => padD k (b / 10) ++ [chD (b % 10)]
theorem dec_split : ∀ (k a b : Nat), 0 < a → b < 10 ^ k → Go.Lib.decDigits (a * 10 ^ k + b) = Go.Lib.decDigits a ++ padD k b
  | 0, a, b, _, hb => by
    have : b = 0 := by simpa using hb
    subst this; simp [padD]
  | k + 1, a, b, ha, hb => by
    have h1 : 10 ^ (k + 1) = 10 * 10 ^ k := by rw [Nat.pow_succ, Nat.mul_comm]
    have h2 : 10 ^ k ≤ a * 10 ^ k := Nat.le_mul_of_pos_left _ ha
    have h3 : 1 ≤ 10 ^ k := Nat.pow_pos (by decide)
    have h4 : a * 10 ^ (k + 1) = 10 * (a * 10 ^ k) := by rw [h1, ← Nat.mul_assoc, Nat.mul_comm a 10, Nat.mul_assoc]
    rw [h4, dec_big (by omega), show (10 * (a * 10 ^ k) + b) / 10 = a * 10 ^ k + b / 10 by omega, show (10 * (a * 10 ^ k) + b) % 10 = b % 10 by omega, dec_split k a (b / 10) ha (by omega)]
    simp [padD, chD]
theorem padD_zero : ∀ k, padD k 0 = List.replicate k 48
  | 0 => rfl
  | k + 1 => by
    rw [padD, Nat.zero_div, padD_zero k]
    rw [List.replicate_succ']
    rfl
theorem padD_pad : ∀ (k b : Nat), b < 10 ^ (k + 1) → (Go.Lib.decDigits b).length ≤ k + 1 ∧ padD (k + 1) b = List.replicate (k + 1 - (Go.Lib.decDigits b).length) 48 ++ Go.Lib.decDigits b
  | k, b, hb => by
    by_cases h : b < 10
    · rw [dec_small h, padD, show b / 10 = 0 by omega, padD_zero, show b % 10 = b by omega]
      exact ⟨by simp, by simp [chD]⟩
    · have hk : 1 ≤ k := by
        rcases Nat.eq_zero_or_pos k with rfl | h1
        · exact absurd (by simpa using hb) h
        · exact h1
      obtain ⟨k, rfl⟩ : ∃ m, k = m + 1 := ⟨k - 1, by omega⟩
      have h2 : 10 ^ (k + 1 + 1) = 10 * 10 ^ (k + 1) := by rw [Nat.pow_succ 10 (k + 1), Nat.mul_comm]
      obtain ⟨h3, h4⟩ := padD_pad k (b / 10) (by omega)
      rw [dec_big h, padD, h4, List.length_append, List.length_singleton]
      refine ⟨by omega, ?_⟩
      rw [show k + 1 + 1 - ((Go.Lib.decDigits (b / 10)).length + 1) = k + 1 - (Go.Lib.decDigits (b / 10)).length by omega]
      simp [chD]
theorem rep0 (c : Nat) : Go.Lib.repeatL [48] c = List.replicate c 48 := by
  induction c with
  | zero => rfl
  | succ c ih => rw [Go.Lib.repeatL, ih, List.replicate_succ]; rfl
theorem dec_len9 {b : Nat} (h : b < 1000000000) : 1 ≤ (Go.Lib.decDigits b).length ∧ (Go.Lib.decDigits b).length ≤ 9 := by
  refine ⟨?_, (padD_pad 8 b (by omega)).1⟩
  rw [Go.Lib.decDigits_length]; exact Go.Lib.nDigits_pos b
/-- The parts of a numeral, nine digits each, the least first. -/
def partOf (m : Nat) : List UInt8 := if m / 1000000000 = 0 then Go.Lib.decDigits (m % 1000000000) else List.replicate (9 - (Go.Lib.decDigits (m % 1000000000)).length) 48 ++ Go.Lib.decDigits (m % 1000000000)
def PartsI (n m : Nat) (ps : List (List UInt8)) : Prop := (0 < m ∧ Go.Lib.decDigits n = Go.Lib.decDigits m ++ ps.reverse.flatten) ∨ (m = 0 ∧ Go.Lib.decDigits n = ps.reverse.flatten)
theorem PartsI.start {n : Nat} (h : 0 < n) : PartsI n n [] := .inl ⟨h, by simp⟩
theorem PartsI.step {n m : Nat} {ps : List (List UInt8)} (h : PartsI n m ps) (hm : 0 < m) : PartsI n (m / 1000000000) (ps ++ [partOf m]) := by
  rcases h with ⟨_, h⟩ | ⟨h0, _⟩
  · by_cases hz : m / 1000000000 = 0
    · refine .inr ⟨hz, ?_⟩
      have hp : partOf m = Go.Lib.decDigits m := by unfold partOf; rw [if_pos hz, Nat.mod_eq_of_lt (by omega)]
      rw [h, List.reverse_append, hp]; simp
    · refine .inl ⟨by omega, ?_⟩
      have hp : partOf m = padD 9 (m % 1000000000) := by
        unfold partOf; rw [if_neg hz, (padD_pad 8 (m % 1000000000) (by omega)).2]
      have hd : Go.Lib.decDigits m = Go.Lib.decDigits (m / 1000000000) ++ padD 9 (m % 1000000000) := by
        rw [← dec_split 9 (m / 1000000000) (m % 1000000000) (by omega) (by omega)]
        congr 1; omega
      rw [h, List.reverse_append, hp, hd]; simp
  · omega
theorem PartsI.done {n : Nat} {ps : List (List UInt8)} (h : PartsI n 0 ps) : ps.reverse.flatten = Go.Lib.decDigits n := by
  rcases h with ⟨h0, _⟩ | ⟨_, h⟩
  · omega
  · exact h.symm
theorem join_none (xs : List (List UInt8)) : Go.Lib.join xs [] = xs.flatten := by
  unfold Go.Lib.join
  induction xs with
  | nil => rfl
  | cons x xs ih =>
    cases xs with
    | nil => simp [List.intercalate]
    | cons y ys => simp only [List.intercalate] at ih ⊢; simp [List.intersperse, ih]
/-! ### Bytes in a block -/
theorem bytesV_put {bs : List UInt8} {j off : Nat} {x : UInt8} (h : j < bs.length) (ho : off = j) : putCells (bytesV bs).toArray off (Value.int .u8 (x.toNat : Int)).cells.toList = (bytesV (bs.set j x)).toArray := by
  subst ho
  rw [show (Value.int .u8 (x.toNat : Int)).cells.toList = [Value.int .u8 (x.toNat : Int)] from rfl, putCells_one (by simpa [bytesV] using h)]
  simp [bytesV, List.map_set]
theorem bytesV_made (n : Nat) : madeCells (Value.int .u8 0).cells (n * 1) = (bytesV (List.replicate n 0)).toArray := by
  apply Array.ext'
  simp [Value.cells, madeCells, bytesV, Nat.mod_one, List.map_const']
theorem chD_nat {d : Nat} (h : d < 10) : (chD d).toNat = 48 + d := by
  unfold chD
  rw [UInt8.toNat_ofNat']; omega
theorem dec_nil : strV (Go.Lib.decDigits (valT [])) = .string ⟨#[48]⟩ := by
  rw [show valT [] = 0 from rfl, dec_small (by decide)]; rfl
/-- The text so far: written from the end. -/
def txtL (ws : List Nat) (k : Nat) : List UInt8 := List.replicate (ws.length - k) 0 ++ ((ws.take k).map chD).reverse
theorem txtL_len {ws : List Nat} {k : Nat} (h : k ≤ ws.length) : (txtL ws k).length = ws.length := by
  unfold txtL; simp; omega
theorem txtL_succ {ws : List Nat} {k : Nat} (h : k < ws.length) : (txtL ws k).set (ws.length - 1 - k) (chD ws[k]) = txtL ws (k + 1) := by
  unfold txtL
  rw [List.take_succ_eq_append_getElem h, List.map_append, List.reverse_append]
  have e : ws.length - k = (ws.length - (k + 1)) + 1 := by omega
  rw [e, List.replicate_succ', List.append_assoc, List.set_append_right _ _ (by simp; omega)]
  congr 1
  rw [List.length_replicate, show ws.length - 1 - k - (ws.length - (k + 1)) = 0 by omega]
  rfl
theorem txtL_zero (ws : List Nat) : txtL ws 0 = List.replicate ws.length 0 := by simp [txtL]
theorem txtL_all (ws : List Nat) : txtL ws ws.length = (ws.map chD).reverse := by simp [txtL]
end Pal

/-
  Range over a function with several loop variables, whose body may draw its orders. Own work. No statement of the seat is proved here.
-/
namespace Pal
open Go Go.Proofs Go.Proofs.X
section rules
variable {P : Program} {n : Nat} {c : Cx} {Q : Exit → Act → World → Prop} {l : KL} {hl : HL} {H : View}
/-- Code in whatever frame, with whatever is deferred. -/
def KY (P : Program) (n : Nat) (c : Cx) (code : Code) (S : KL → HL → View → Prop) (l : KL) (hl : HL) (H : View) : Prop :=
  ∀ ρ w, Mt n ρ l → Ok c w H hl → ∀ (b : Frame) (ds : List Deferred) (k : List Item) (cs : List Frame),
    ∃ ρ' l' hl' H' w', S l' hl' H' ∧ Mt n ρ' l' ∧ Ok c w' H' hl' ∧ Steps P (lone (b.atR ⟨(fr n ρ).tmps, ds⟩ (.code code :: k)) cs w) (lone (b.atR ⟨(fr n ρ').tmps, ds⟩ k) cs w')
theorem KY_region {id : Nat} {ol : List Oper} {S : KL → HL → View → Prop} (hnd : noDefer ol = true) (h : KO P n c ol.toArray (onlyN (Out n c S)) ol l hl H) : KY P n c (.region id ol.toArray false) S l hl H :=
  fun _ _ hm ho b ds k cs => h.run hnd hm ho id b ds k cs
theorem KY_seq {x y : Code} {S : KL → HL → View → Prop} (h : KY P n c x (fun l' hl' H' => KY P n c y S l' hl' H') l hl H) : KY P n c (.seq x y) S l hl H := by
  intro ρ w hm ho b ds k cs
  obtain ⟨ρ1, l1, hl1, H1, w1, h1, hm1, ho1, st1⟩ := h ρ w hm ho b ds (.code y :: k) cs
  obtain ⟨ρ2, l2, hl2, H2, w2, h2, hm2, ho2, st2⟩ := h1 ρ1 w1 hm1 ho1 b ds k cs
  exact ⟨ρ2, l2, hl2, H2, w2, h2, hm2, ho2, .head stepR_seq (st1.trans st2)⟩
theorem KY_draw {id : Nat} {R : List Nat} {ops : List Oper} {fin : Bool} {keep : HL} {S : KL → HL → View → Prop} (hnd : noDefer ops = true) (hok : drawOk n ops fin R = true) (hmix : P.follows .mixedOrders = true) (hkeep : List.Sublist keep hl)
    (h : KD P n ops.toArray keep fin (TQ n c (onlyN (Out n c S))) R l hl H) : KY P n c (.region id ops.toArray true) S l hl H := by
  intro ρ w hm ho b ds k cs
  have hd := DOk.of hok
  have hlen : R.length = ops.length := by
    have h1 : R.Perm (List.range ops.length) := by
      rw [List.perm_ext_iff_of_nodup hd.nd List.nodup_range]
      intro a
      rw [List.mem_range]
      exact ⟨hd.lt a, hd.all a⟩
    simpa using h1.length_eq
  have h1 : wpAny P .any ops.toArray (onlyN (Out n c S)) ops.toArray.size (Array.replicate ops.toArray.size false) (fr n ρ) { w with drawn := w.drawn + 1 } := by
    refine KD.run (fin := fin) (fun i o ho => hd.sel i o (by simpa using ho)) hd.edge hd.dst ((feet_sublist hkeep).nodup ho.nd) ops.toArray.size R _ l hl H ρ w.drew (by simpa using hlen) hd.nd hd.lt (by simp) ?_ ?_ hd.pair hd.last
      (fun _ en hen => hkeep.subset hen) hm ho.drew h
    · intro i hi
      constructor
      · intro _; exact hd.all i hi
      · intro _; simp [Array.getD, hi]
    · intro i o hi hoi
      exact absurd (hd.all i (List.getElem?_eq_some_iff.1 hoi).1) hi
  have h2 := wpAny_sound ops.toArray.size (w.tape w.drawn (.order b.fn id)) _ _ _ h1
  obtain ⟨a', w', ⟨ρ', l', hl', H', rfl, hm', ho', hS⟩, hs⟩ := ops_steps hnd _ _ _ h2 b ds k cs
  refine ⟨ρ', l', hl', H', w', hS, hm', ho', .head stepR_region_draw ?_⟩
  simp only [Region.schedule, hmix, Bool.true_or, if_true]
  exact hs
/-- A call of yield: a round, from p to q. -/
def YOkV (P : Program) (L : Nat) (xs : List Value) (p : HL) (Z : HL → Prop) : Prop := ∀ H w, Has w H p → ∃ f tmps cA bd, (Instr.yield L xs.toArray).run P w = .ok (.round L f tmps cA bd) w ∧
  ∀ c cs, ∃ w' H' q, Steps P (lone (Frame.round L f tmps cA bd .normal) (c :: cs) w) (lone (c.finish (.bool true)) cs w') ∧ Ok ⟨w, H, feet p⟩ w' H' q ∧ Z q
def updV (ρ : Env) : List Nat → List Value → Env
  | t :: ts, x :: xs => updV (upd ρ t x) ts xs
  | _, _ => ρ
def pairKV : List Nat → List Value → KL → KL
  | t :: ts, x :: xs, l => pairKV ts xs ((t, x) :: l)
  | _, _, l => l
theorem mt_upds : ∀ {ts : List Nat} {xs : List Value} {ρ : Env} {l : KL}, (ts.all fun t => Nat.blt t n) = true → Mt n ρ l → Mt n (updV ρ ts xs) (pairKV ts xs l)
  | [], _, _, _, _, h => by simpa [updV, pairKV] using h
  | _ :: _, [], _, _, _, h => by simpa [updV, pairKV] using h
  | t :: ts, x :: xs, ρ, l, hn, h => by
    simp only [List.all_cons, Bool.and_eq_true] at hn
    exact mt_upds (ts := ts) (xs := xs) (ρ := upd ρ t x) (l := (t, x) :: l) hn.2 (h.put hn.1 x)
theorem fold_upds : ∀ {ts : List Nat} {xs : List Value} {ρ : Env}, ((ts.zip xs).foldl (fun tmps (t, a) => tmps.setIfInBounds t a) (fr n ρ).tmps) = (fr n (updV ρ ts xs)).tmps
  | [], _, _ => by simp [updV]
  | _ :: _, [], _ => by simp [updV]
  | t :: ts, x :: xs, ρ => by
    rw [List.zip_cons_cons, List.foldl_cons]
    have : (fr n ρ).tmps.setIfInBounds t x = (fr n (upd ρ t x)).tmps := by rw [← fr_put]; simp [Act.put]
    dsimp only
    rw [this, fold_upds]; rfl
theorem yokV {L ib : Nat} {r : Loop} {ts : List Nat} {xs : List Value} {aC bC : Code} {ρ0 : Env} {l0 L1 : KL} {p : HL} {Z : HL → Prop}
    (hst : r.state = .ready) (hpe : r.pending = none) (hps : r.params = ts.toArray) (hlen : xs.length = ts.length) (hpn : (ts.all fun t => Nat.blt t n) = true) (htm : r.tmps = (fr n ρ0).tmps) (hm0 : Mt n ρ0 l0)
    (has : r.assign = aC) (hbd : r.body = .block ib bC)
    (hA : ∀ c H, KY P n c aC (fun l1 hl1 H1 => hl1 = blk L (.loop r) :: p ∧ H1 = H ∧ subs L1 l1) (pairKV ts xs l0) (blk L (.loop r) :: p) H)
    (hB : ∀ c H, KY P n c bC (fun _ hl1 _ => ∃ q, hl1 = blk L (.loop (busy r)) :: q ∧ Z (blk L (.loop r) :: q)) L1 (blk L (.loop (busy r)) :: p) H) :
    YOkV P L xs (blk L (.loop r) :: p) Z := by
  intro H w hw
  have hL : w.heap[L]? = some (.loop r) := hw.own _ List.mem_cons_self
  refine ⟨_, _, _, _, run_yield hL (by simp [hps, hlen]), ?_⟩
  intro c cs
  let b : Frame := { (default : Frame) with fn := r.fn, kind := .normal, roundOf := some L }
  have htm' : ((r.params.zip xs.toArray).foldl (fun tmps (t, a) => tmps.setIfInBounds t a) r.tmps) = (fr n (updV ρ0 ts xs)).tmps := by
    rw [hps, htm, ← fold_upds]
    simp
  rw [htm', has, hbd]
  have hstart : Frame.round L r.fn (fr n (updV ρ0 ts xs)).tmps aC (.block ib bC) .normal =
      b.atR ⟨(fr n (updV ρ0 ts xs)).tmps, []⟩ [.code aC, .beginRound, .code (.block ib bC)] := rfl
  rw [hstart]
  obtain ⟨ρ1, l1, hl1, H1, w1, ⟨rfl, rfl, hs1⟩, hm1, ho1, st1⟩ := hA ⟨w, H, feet (blk L (.loop r) :: p)⟩ H _ _ (mt_upds hpn hm0) hw.ok b [] [.beginRound, .code (.block ib bC)] (c :: cs)
  have hL1 : w1.heap[L]? = some (.loop r) := ho1.own _ List.mem_cons_self
  have st2 := stepR_beginRound (P := P) (b := b) (a := ⟨(fr n ρ1).tmps, []⟩) (k := [.code (.block ib bC)]) (cs := c :: cs) rfl (run_beginRound hL1 hst)
  have ho2 := ho1.put (.loop (busy r))
  obtain ⟨ρ3, l3, hl3, H3, w3, ⟨q, rfl, hZ⟩, hm3, ho3, st3⟩ := hB ⟨w, H1, feet (blk L (.loop r) :: p)⟩ H1 _ _ (hm1.sub hs1) ho2 b [] [.inBlock ib] (c :: cs)
  have hL3 : w3.heap[L]? = some (.loop (busy r)) := ho3.own _ List.mem_cons_self
  have ho4 := ho3.put (.loop r)
  have st4 := stepR_round_end (P := P) (b := b) (a := ⟨(fr n ρ3).tmps, []⟩) (c := c) (cs := cs) rfl rfl (run_endRound none hL3)
  have hrr : ({ (busy r) with state := .ready, pending := none } : Loop) = r := by
    cases r; simp only at hst hpe; subst hst; subst hpe; rfl
  simp only [Option.isNone_none, if_true] at st4
  rw [show ({ state := .ready, pending := none, fn := (busy r).fn, tmps := (busy r).tmps, params := (busy r).params, assign := (busy r).assign, body := (busy r).body, defers := (busy r).defers } : Loop) = r from hrr] at st4
  exact ⟨_, H3, _, st1.trans (.head st2 (.head stepR_block (st3.trans (.head stepR_inBlock (.one st4))))), ho4, hZ⟩
variable {ops : Array Oper} {rest : List Oper} {d : Nat} {v : Value} {op : Op} {ty : TypeId} {pos : String} {aft : Array Edge}
theorem X_yieldV {g : Operand} {ys : List Operand} {ats : Array TypeId} {L : Nat} {vs : List Value} {p r : HL} {Z : HL → Prop} (hg : ev l g = some (.func (.yield L) #[] #[])) (hx : evs l ys = some vs) (hp : hl.Perm (p ++ r)) (hY : YOkV P L vs p Z) (hdn : Nat.blt d n = true)
    (h : ∀ H' q, VLe H H' → Z q → KX P n c ops Q rest ((d, .bool true) :: l) (q ++ r) H') :
    KX P n c ops Q (⟨some d, .call ⟨.value g, ys.toArray, ats⟩, ty, pos, aft, none⟩ :: rest) l hl H := by
  intro ρ w hm ho is his b k cs
  cases is with
  | nil => simp at his
  | cons i is =>
    simp only [List.map_cons, List.cons.injEq] at his
    obtain ⟨hi, his⟩ := his
    have ho' := ho.perm hp
    obtain ⟨f, tmps, cA, bd, hy, hround⟩ := hY H w ho'.hasL.left
    obtain ⟨w1, H1, q, st, hok, hZ⟩ := hround (b.at (fr n ρ) (.inRegion ops (i :: is) :: k)) cs
    obtain ⟨e, a', w', hq, harr⟩ := h H1 q hok.le hZ _ w1 (hm.put hdn _) (ho'.call hok) is his b k cs
    have hf : (b.at (fr n ρ) (.inRegion ops (i :: is) :: k)).finish (.bool true) = b.at (fr n (upd ρ d (.bool true))) (.inRegion ops is :: k) := by
      rw [Frame.finish_at, hi]; simp [fr_put]
    rw [hf] at st
    refine ⟨e, a', w', hq, .of_steps (.head (step_lone_go ?_) st) harr⟩
    rw [stepG_op hi (by simp [Region.wanted])]
    have e1 : ys.toArray.map (fr n ρ).eval = vs.toArray := by
      apply Array.ext'; simp [hm.knows.evs hx]
    have hr : (execOp (fr n ρ).eval ⟨some d, .call ⟨.value g, ys.toArray, ats⟩, ty, pos, aft, none⟩).run P w = .ok (.round L f tmps cA bd) w := by
      simp only [execOp, resolve, hm.ev hg, Deferred.ofValue, e1, Sem.run_bind, Sem.run_pure, Result.andThen_ok, invoke, callFunc]
      simpa using hy
    simp [stepG.apply, hr, Frame.at]
/-- The function's end, behind the loop. -/
theorem wp_endY {C : Code} {D : Nat} {S : KL → HL → View → Prop} {fn : Func} {rs : List ResultVar} {post : Value → View → HL → Prop} {w : World} {ρ : Env} (hm : Mt n ρ l) (ho : Ok c w H (blk D (.deferred (some [])) :: hl))
    (h : KY P n c C S l (blk D (.deferred (some [])) :: hl) H)
    (hS : ∀ l' hl' H', S l' hl' H' → ∃ hl2 vs, hl' = blk D (.deferred (some [])) :: hl2 ∧ fn.results = rs.toArray ∧ resOk P l' hl2 rs vs ∧ ∀ w', Ok c w' H' hl2 → ∃ H2 hl3, Ok c w' H2 hl3 ∧ post (tupV vs) H2 hl3) :
    (Code.seq C .ret).wp P (bodyPostM P fn (RS c post)) ⟨(fr n ρ).tmps, [⟨.collected D, #[]⟩]⟩ w := by
  intro b k cs
  obtain ⟨ρ', l', hl', H', w', hs, hm', ho', st⟩ := h ρ w hm ho { b with roundOf := none } [⟨.collected D, #[]⟩] (.code .ret :: k) cs
  obtain ⟨hl2, vs, rfl, hfn, hres, hfin⟩ := hS _ _ _ hs
  have hD : w'.heap[D]? = some (.deferred (some [])) := ho'.own (blk D (.deferred (some []))) List.mem_cons_self
  have ho2 : Ok c (w'.putObj D (.deferred none)) H' hl2 := Ok.right (a := [_]) (ho'.put (.deferred none))
  obtain ⟨H2, hl3, ho3, hp⟩ := hfin _ ho2
  refine ⟨.ret, ⟨(fr n ρ').tmps, [⟨.collected D, #[]⟩]⟩, w', ⟨D, _, rfl, run_takeDeferred hD, tupV vs, ?_, tupV vs, H2, hl3, rfl, ho3, hp⟩, _, Steps.trans (.one step_seq) (Steps.trans st (.one step_ret))⟩
  exact resOk.results hfn hm' ho2.hasL hres
end rules
end Pal

/-
  Division of a number by a small one, word by word. Own work. No statement of the seat is proved here.
-/
namespace Pal
open Go Go.Proofs Go.Proofs.X
section rules
variable {P : Program} {n : Nat} {c : Cx} {Q : Exit → Act → World → Prop} {l : KL} {hl : HL} {H : View} {ty : TypeId}
theorem R_shlU {xt yt : TypeId} {x y : Operand} {a k : Nat} {q : IntKind} (hx : ev l x = some (.int .u64 (a : Int))) (hy : ev l y = some (.int q (k : Int))) (hk : k ≤ 64) (hs : a * 2 ^ k < 18446744073709551616) : ValOk P l H hl (.binOp .shl xt x y yt) ty (.int .u64 ((a * 2 ^ k : Nat) : Int)) := by
  refine (fun e w hkn _ => ?_)
  simp only [ex, execOp, hkn x _ hx, hkn y _ hy, Sem.run_bind, run_eqGuard_int, Result.andThen_ok]
  have h1 : ¬ ((k : Int) < 0) := by omega
  have h2 : min k 64 = k := by omega
  simp only [binOp, Op.shift, h1, if_false, Int.toNat_natCast, IntKind.bits, h2, Sem.run_pure, Result.andThen_ok, IntKind.wrap_u64]
  congr 3
  rw [show ((2 : Int) ^ k) = ((2 ^ k : Nat) : Int) by simp, ← Int.natCast_mul]
  generalize a * 2 ^ k = m at hs ⊢
  omega
theorem KY_perm {code : Code} {S : KL → HL → View → Prop} (hl' : HL) (hp : hl.Perm hl') (h : KY P n c code S l hl' H) : KY P n c code S l hl H := fun ρ w hm ho => h ρ w hm (ho.perm hp)
theorem KY_pubF {code : Code} {S : KL → HL → View → Prop} {b : Nat} {o : Obj} (h : ∀ H', VLe H H' → H' b = some o → KY P n c code S l hl H') : KY P n c code S l (blk b o :: hl) H :=
  fun ρ w hm ho => h (vadd H b o) ho.publishLe (vadd_self _ _ _) ρ w hm ho.publishF
end rules
theorem or_add {a b : Nat} (h : b < 4294967296) : (a * 2 ^ 32) ||| b = a * 4294967296 + b := by
  have := Nat.shiftLeft_add_eq_or_of_lt (i := 32) (b := b) (by simpa using h) a
  rw [Nat.shiftLeft_eq] at this
  rw [← this]
theorem tmodN (a b : Nat) : ((a : Nat) : Int).tmod (b : Int) = ((a % b : Nat) : Int) := by rw [Int.tmod_eq_emod_of_nonneg (by omega)]; exact (Int.natCast_emod a b).symm
theorem tdivN (a b : Nat) : ((a : Nat) : Int).tdiv (b : Int) = ((a / b : Nat) : Int) := by rw [Int.tdiv_eq_ediv_of_nonneg (by omega)]; exact (Int.natCast_ediv a b).symm
/-- The word that comes in a round. -/
def topW (ws : List Nat) (k : Nat) : Nat := ws.getD (ws.length - 1 - k) 0
def shortS (ws : List Nat) (m : Nat) : Nat → List Nat × Nat
  | 0 => (List.replicate ws.length 0, 0)
  | k + 1 => ((shortS ws m k).1.set (ws.length - 1 - k) (((shortS ws m k).2 * 4294967296 + topW ws k) / m), ((shortS ws m k).2 * 4294967296 + topW ws k) % m)
theorem shortS_len (ws : List Nat) (m : Nat) : ∀ k, (shortS ws m k).1.length = ws.length
  | 0 => by simp [shortS]
  | k + 1 => by simp [shortS, shortS_len ws m k]
theorem topW_lt {ws : List Nat} (h : WordsOk ws) (k : Nat) : topW ws k < 4294967296 := by
  unfold topW
  by_cases hi : ws.length - 1 - k < ws.length
  · have := h _ (List.getElem_mem hi); simpa [List.getD, hi] using this
  · simp [List.getD, show ws.length ≤ ws.length - 1 - k by omega]
theorem shortS_ok {ws : List Nat} {m : Nat} (h : WordsOk ws) (hm : 0 < m) : ∀ k, WordsOk (shortS ws m k).1 ∧ (shortS ws m k).2 < m
  | 0 => ⟨fun w hw => by rw [show (shortS ws m 0).1 = List.replicate ws.length 0 from rfl] at hw; rw [List.eq_of_mem_replicate hw]; decide, hm⟩
  | k + 1 => by
    obtain ⟨h1, h2⟩ := shortS_ok h hm k
    have h3 := topW_lt h k
    refine ⟨fun w hw => ?_, Nat.mod_lt _ hm⟩
    rcases List.mem_or_eq_of_mem_set hw with hw | hw
    · exact h1 w hw
    · subst hw
      rw [Nat.div_lt_iff_lt_mul hm]
      have : ((shortS ws m k).2 + 1) * 4294967296 ≤ m * 4294967296 := Nat.mul_le_mul_right _ h2
      rw [Nat.mul_comm 4294967296 m]
      omega
theorem shortS_zero {ws : List Nat} {m : Nat} : ∀ k i (h : i < (shortS ws m k).1.length), k ≤ ws.length → i < ws.length - k → (shortS ws m k).1[i] = 0
  | 0, i, h, _, _ => by simp [shortS]
  | k + 1, i, h, hk, hi => by
    simp only [shortS]
    rw [List.getElem_set]
    rw [if_neg (by omega)]
    exact shortS_zero k i (by simpa [shortS] using h) (by omega) (by omega)
theorem shortS_val {ws : List Nat} {m : Nat} : ∀ k, k ≤ ws.length → valW (shortS ws m k).1 * m + (shortS ws m k).2 * 4294967296 ^ (ws.length - k) = 4294967296 ^ (ws.length - k) * valW (ws.drop (ws.length - k))
  | 0, _ => by
    have : ws.drop (ws.length - 0) = [] := by simp
    rw [this]
    simp [shortS, valW_zeros, valW]
  | k + 1, hk => by
    have ih := shortS_val (ws := ws) (m := m) k (by omega)
    have hi : ws.length - 1 - k < (shortS ws m k).1.length := by rw [shortS_len]; omega
    have hz := shortS_zero k (ws.length - 1 - k) hi (by omega) (by omega)
    have hset := valW_set hi (((shortS ws m k).2 * 4294967296 + topW ws k) / m)
    rw [hz, Nat.mul_zero, Nat.add_zero] at hset
    have e1 : ws.length - (k + 1) = ws.length - 1 - k := by omega
    have e2 : ws.length - k = (ws.length - 1 - k) + 1 := by omega
    have hw : ws.length - 1 - k < ws.length := by omega
    have e3 : ws.drop (ws.length - 1 - k) = topW ws k :: ws.drop (ws.length - k) := by
      rw [List.drop_eq_getElem_cons hw, e2]; unfold topW; simp [List.getD, hw]
    rw [e1]
    simp only [shortS]
    rw [hset, e3]
    simp only [valW]
    rw [e2] at ih ⊢
    rw [Nat.pow_succ] at ih
    generalize valW (shortS ws m k).1 = A at *
    generalize 4294967296 ^ (ws.length - 1 - k) = B at *
    generalize (shortS ws m k).2 = r at *
    generalize valW (List.drop (ws.length - 1 - k + 1) ws) = D at *
    generalize topW ws k = t
    have h1 : (A + B * ((r * 4294967296 + t) / m)) * m = A * m + B * (m * ((r * 4294967296 + t) / m)) := by rw [Nat.add_mul, Nat.mul_assoc, Nat.mul_comm ((r * 4294967296 + t) / m) m]
    have h2 : (r * 4294967296 + t) % m * B = B * ((r * 4294967296 + t) % m) := Nat.mul_comm _ _
    have h3 : B * (m * ((r * 4294967296 + t) / m)) + B * ((r * 4294967296 + t) % m) = B * (r * 4294967296 + t) := by rw [← Nat.mul_add, Nat.div_add_mod]
    have h4 : B * (r * 4294967296 + t) = r * (B * 4294967296) + B * t := by rw [Nat.mul_add, ← Nat.mul_assoc, Nat.mul_comm B r, Nat.mul_assoc]
    have h5 : B * (t + 4294967296 * D) = B * t + B * 4294967296 * D := by rw [Nat.mul_add, Nat.mul_assoc]
    rw [h1, h2, h5]
    omega
theorem shortS_done {ws : List Nat} {m : Nat} (h : WordsOk ws) (hm : 0 < m) : valW (shortS ws m ws.length).1 = valW ws / m ∧ (shortS ws m ws.length).2 = valW ws % m := by
  have h1 := shortS_val (ws := ws) (m := m) ws.length (Nat.le_refl _)
  rw [Nat.sub_self, Nat.pow_zero, Nat.mul_one, Nat.one_mul, List.drop_zero] at h1
  have h2 := (shortS_ok h hm ws.length).2
  rw [← h1]
  constructor
  · rw [Nat.mul_comm, Nat.mul_add_div hm, Nat.div_eq_of_lt h2, Nat.add_zero]
  · rw [Nat.mul_comm, Nat.mul_add_mod, Nat.mod_eq_of_lt h2]
end Pal

/-
  The library's string functions, by the shelf's contracts, asx calls. Own work. No statement of the seat is proved here.
-/
namespace Pal
open Go Go.Proofs Go.Proofs.X Go.RowKit Go.Shelf
/-- The table of the powers of ten. -/
def TabN (P : Program) (H : View) : Prop := ∃ g e fz, P.globalNamed "internal/strconv.uint64pow10" = some g ∧ H g = some (.cells (Lib.pow10Tab.map fun z => Value.int .u64 z).toArray e fz)
theorem TabN.mono {P : Program} {H H' : View} (h : TabN P H) (hle : VLe H H') : TabN P H' := by
  obtain ⟨g, e, fz, h1, h2⟩ := h
  exact ⟨g, e, fz, h1, hle g _ h2⟩
theorem TabN.is {P : Program} {H : View} (h : TabN P H) {w : World} {hl : HL} (hw : Has w H hl) : Lib.TabIs P w "internal/strconv.uint64pow10" .u64 Lib.pow10Tab := by
  obtain ⟨g, e, fz, h1, h2⟩ := h
  have h3 := hw.has g _ h2
  unfold Lib.TabIs World.var?
  rw [h1]
  simp only [Option.bind_some, h3]
theorem TabN.of {P : Program} {w : World} (h : Lib.TabIs P w "internal/strconv.uint64pow10" .u64 Lib.pow10Tab) : TabN P (heapOf w) := by
  unfold Lib.TabIs World.var? at h
  cases hg : P.globalNamed "internal/strconv.uint64pow10" with
  | none => rw [hg] at h; cases h
  | some g =>
    rw [hg] at h
    simp only [Option.bind_some] at h
    cases hb : w.heap[g]? with
    | none => rw [hb] at h; cases h
    | some o =>
      rw [hb] at h
      cases o <;> try (cases h)
      rename_i e fz
      exact ⟨g, e, fz, hg, hb⟩
section
variable {P : Program} {ρ : Ren} {H : View}
theorem small_sat (L : Lays.n283 P ρ) {i : Nat} (h : i < 100) : Sat P (ρ.f 283) #[.int .i64 (i : Int)] H (fun r _ => r = strV (Lib.decDigits i)) :=
  Sat.still fun w _ => Any.internal_strconv_small L i h w
theorem num_sat (L : LaysM.n284 P ρ) {u : Nat} (h1 : 1 ≤ u) (h2 : u < 18446744073709551616) (hT : TabN P H) : Sat P (ρ.f 284) #[.int .u64 (u : Int)] H (fun r _ => r = .int .i64 (Lib.nDigits u : Int)) :=
  Sat.still fun w hw => Any.internal_strconv_numDigits L u h1 h2 w (hT.is hw)
theorem fmt_satO (L : Lays.n285 P ρ) {u b m cap : Nat} {E : TypeId} (hm : Lib.nDigits u ≤ m) (hm2 : m ≤ 1048576) (h2 : u < 18446744073709551616) :
    SatO P (ρ.f 285) #[.slice (some ⟨b, 0, none⟩) (Lib.nDigits u) cap, .int .u64 (u : Int)] H [blk b (.cells (bytesV (List.replicate m 0)).toArray E (0, 0))]
      (fun _ H' q => H' = H ∧ q = [blk b (.cells (bytesV (Lib.decDigits u ++ List.replicate (m - Lib.nDigits u) 0)).toArray E (0, 0))]) := by
  intro w hw
  have hb : w.heap[b]? = some (.cells (bytesV (List.replicate m 0)).toArray E (0, 0)) := hw.own _ List.mem_cons_self
  have hd : (List.replicate (Lib.nDigits u) (0 : UInt8)).toArray.size = Lib.nDigits u := by simp
  have hH : Sort.Holds (fun (b : UInt8) => Value.int .u8 (b.toNat : Int)) w b 0 (List.replicate (Lib.nDigits u) (0 : UInt8)).toArray := by
    intro j hj
    rw [hd] at hj
    refine ⟨?_, by simp [World.frozen?, hb]⟩
    have e1 : ((List.replicate (Lib.nDigits u) (0 : UInt8)).toArray)[j]! = 0 := by
      rw [getElem!_pos _ j (by simpa using hj)]; simp
    rw [e1]
    simp only [World.cell?, hb, Nat.zero_add]
    have : j < m := by omega
    simp [bytesV, this]
  have h := Any.internal_strconv_formatBase10 L b 0 cap u (List.replicate (Lib.nDigits u) (0 : UInt8)).toArray w hH (by rw [hd]; exact Lib.lt_pow_nDigits u) h2 (by rw [hd]; omega)
  rw [hd] at h
  refine Calls.mono h ?_
  rintro e w' ⟨rfl, n, v', dk, rfl, hF⟩
  obtain ⟨p1, p2, p3⟩ := putRow_at (enc := fun (b : UInt8) => Value.int .u8 (b.toNat : Int)) (d := dk) hb
  have hds : dk.size = Lib.nDigits u := hF.size
  have hcells : Sort.putCells (fun (b : UInt8) => Value.int .u8 (b.toNat : Int)) 0 dk (bytesV (List.replicate m 0)).toArray = (bytesV (Lib.decDigits u ++ List.replicate (m - Lib.nDigits u) 0)).toArray := by
    apply Array.ext
    · simp [Sort.putCells, bytesV, Lib.decDigits_length]; omega
    · intro i h1 h2
      have hi : i < m := by simpa [Sort.putCells, bytesV] using h1
      simp only [Sort.putCells, Array.getElem_mapIdx, Nat.zero_le, true_and, Nat.zero_add, Nat.sub_zero]
      by_cases hn : i < dk.size
      · rw [if_pos hn]
        have hl : i < (Lib.decDigits u).length := by rw [Lib.decDigits_length]; omega
        have hr := Lib.row_is_numeral hF i hl
        simp only [bytesV, List.getElem_toArray, List.getElem_map]
        rw [List.getElem_append_left hl, hr]
      · rw [if_neg hn]
        simp only [bytesV, List.getElem_toArray, List.getElem_map]
        rw [List.getElem_append_right (by rw [Lib.decDigits_length]; omega)]
        simp
  refine ⟨_, H, _, rfl, ok1 (en' := blk b (.cells (bytesV (Lib.decDigits u ++ List.replicate (m - Lib.nDigits u) 0)).toArray E (0, 0))) hw rfl rfl rfl (Nat.le_add_right _ _) ?_ ?_ ?_ (fun k hk => .inl hk) (by simp [blk]), rfl, rfl⟩
  · show w.heap.size ≤ (Sort.putRow _ w b 0 dk).heap.size
    rw [p3]; exact Nat.le_refl _
  · intro k _ hk
    exact p2 k (by simpa [blk] using hk)
  · show (Sort.putRow _ w b 0 dk).heap[b]? = _
    rw [p1, hcells]
def strs (xs : List (List UInt8)) : List Value := xs.map strV
theorem rev_satO (L : Lays2.n17 P ρ) {g k cap : Nat} {E : TypeId} {zs : List (List UInt8)} (hk : zs.length = k) (hk2 : k ≤ 1048576) :
    SatO P (ρ.f 17) #[.slice (some ⟨g, 0, none⟩) k cap] H [row (.slice (some ⟨g, 0, none⟩) k cap) E 1 k (strs zs)] (fun _ H' q => H' = H ∧ q = [row (.slice (some ⟨g, 0, none⟩) k cap) E 1 k (strs zs.reverse)]) := by
  subst hk
  intro w hw
  obtain ⟨hx, hrow⟩ := hw.own _ List.mem_cons_self
  rcases hrow with ⟨h0, _⟩ | ⟨g', cap', cur, h0, hg, hkc, hc, hs, ht⟩
  · cases h0
  · cases h0
    have hg' : w.heap[g]? = some (.cells cur E (0, 0)) := hg
    have hH : Sort.Holds encStr w g 0 zs.toArray := holds_of_row hg' (by
      show cur.toList.take zs.toArray.size = strs zs
      simpa using ht)
    have h := Any.slices_Reverse_string L g 0 cap zs w hH (by omega)
    refine Calls.mono h ?_
    rintro e w' ⟨rfl, n, rfl⟩
    have hok := ok_sorted (enc := encStr) (d := zs.reverse.toArray) (n := n) (os := #[]) hw hg' hkc hc hs (by simp)
    have hgr : Sort.grow (Sort.putRow encStr (Sort.ahead w n) g 0 zs.reverse.toArray) #[] = Sort.putRow encStr (Sort.ahead w n) g 0 zs.reverse.toArray := by
      have h6 : ∀ W : World, Sort.grow W #[] = W := fun W => by unfold Sort.grow; rw [Array.append_empty]
      exact h6 _
    rw [hgr] at hok
    exact ⟨_, H, _, rfl, hok, rfl, by
      show [row _ E 1 zs.length (strs zs.reverse.toArray.toList)] = _
      simp⟩
theorem repeat_satZ (L : Lays.n105 P ρ) (X : Builder.Extra P ρ) {c : Nat} (hc : c ≤ 100) : SatZ P (ρ.f 105) #[.string ⟨#[48]⟩, .int .i64 (c : Int)] H (fun r H' => r = strV (List.replicate c 48) ∧ H' = H) := by
  have h := SatZ.below (P := P) (f := ρ.f 105) (args := #[.string ⟨#[48]⟩, .int .i64 (c : Int)]) (H := H) (v := .string ⟨(Lib.repeatL (ByteArray.mk #[48]).data.toList c).toArray⟩) fun w _ => Any.strings_Repeat L X ⟨#[48]⟩ c w (by omega) (by
    show 1 * c ≤ _; omega)
  have e : (Value.string ⟨(Lib.repeatL (ByteArray.mk #[48]).data.toList c).toArray⟩) = strV (List.replicate c 48) := by
    unfold strV
    rw [show (ByteArray.mk #[48]).data.toList = [48] from rfl, rep0]
  rw [e] at h
  exact h
theorem join_satZ (L : Lays.n156 P ρ) (X : Builder.Extra P ρ) {bk o c : Nat} {xs : List (List UInt8)} (hA : At H bk o (strs xs)) (hc : xs.length ≤ c) (hN : xs.length ≤ 1048576) (hlen : xs.flatten.length ≤ 140737488355328) :
    SatZ P (ρ.f 156) #[.slice (some ⟨bk, o, none⟩) xs.length c, .string ⟨#[]⟩] H (fun r H' => r = strV xs.flatten ∧ H' = H) := by
  have hmap : (xs.map fun l => ByteArray.mk l.toArray).map (fun (x : ByteArray) => x.data.toList) = xs := by
    rw [List.map_map]
    conv => rhs; rw [← List.map_id xs]
    exact List.map_congr_left fun l _ => by simp
  refine SatZ.below fun w hw => ?_
  obtain ⟨cs, T, fz, hb, hcs⟩ := hA
  have hb' := hw.has bk _ hb
  have h := Any.strings_Join L X bk o c (xs.map fun l => ByteArray.mk l.toArray) ⟨#[]⟩ w (fun j x hj => by
    rw [List.getElem?_map] at hj
    cases hxj : xs[j]? with
    | none => rw [hxj] at hj; cases hj
    | some l =>
      rw [hxj] at hj
      simp only [Option.map_some, Option.some.injEq] at hj
      subst hj
      have := hcs j (strV l) (by simp [strs, hxj])
      simp only [World.cell?, hb']
      simpa [strV] using this) (lt_of_heap hb') (by simp; omega) (by simpa using hc) (by rw [hmap, show (ByteArray.mk #[]).data.toList = [] from rfl, join_none]; exact hlen)
  rw [List.length_map, hmap, show (ByteArray.mk #[]).data.toList = [] from rfl, join_none] at h
  exact h
end
section rules
variable {P : Program} {n : Nat} {c : Cx} {Q : Exit → Act → World → Prop} {l : KL} {hl : HL} {H : View} {ty : TypeId}
/-- The head of an array. -/
theorem R_sliceArrHi {t e : TypeId} {x y : Operand} {b k m sz : Nat} {agg : Bool} (hA : arrOk P t k e) (hT : Ty P e agg sz) (hx : ev l x = some (ptr b)) (hy : ev l y = some (.int .i64 (m : Int))) (hc : m ≤ k) (h0 : 0 < k) :
    ValOk P l H hl (.slice t x none (some y) none) ty (.slice (some ⟨b, 0, none⟩) m k) := by
  intro e' w hk _
  have hA' : P.underlying t = some (.array k e) := hA
  simp only [ex, execOp, Instr.sliceAt, Option.map_none, Option.map_some, hk x _ hx, hk y _ hy, Sem.run_bind, run_underlying hA', Result.andThen_ok]
  have hk0 : k ≠ 0 := by omega
  simp [Instr.sliceBounds, Instr.sliceBound, Instr.sureAddr, asIntOf, hc, hT.run_sizeOf, ptr, hk0, addr_add]
end rules
theorem partOf_len (m : Nat) : (partOf m).length ≤ 9 := by
  have h := dec_len9 (b := m % 1000000000) (by omega)
  unfold partOf
  split
  · exact h.2
  · rw [List.length_append, List.length_replicate]; omega
theorem flat_len9 : ∀ {ps : List (List UInt8)}, (∀ p ∈ ps, p.length ≤ 9) → ps.flatten.length ≤ ps.length * 9
  | [], _ => by simp
  | p :: ps, h => by
    have h1 := h p (by simp)
    have h2 := flat_len9 (ps := ps) fun q hq => h q (by simp [hq])
    rw [List.flatten_cons, List.length_append, List.length_cons]
    omega
theorem strs_snoc (ps : List (List UInt8)) (p : List UInt8) : strs (ps ++ [p]) = strs ps ++ [strV p] := by simp [strs]
theorem parts_few {n m L : Nat} (hb : m * 2 ^ L ≤ n) (hm : 0 < m) (hn : n < 2 ^ 200) : L < 200 := by
  have h1 : 2 ^ L ≤ m * 2 ^ L := Nat.le_mul_of_pos_left _ hm
  have h2 : 2 ^ L < 2 ^ 200 := by omega
  exact (Nat.pow_lt_pow_iff_right (a := 2) (by decide)).1 h2
theorem parts_half {n m L : Nat} (hb : m * 2 ^ L ≤ n) : m / 1000000000 * 2 ^ (L + 1) ≤ n := by
  refine Nat.le_trans ?_ hb
  rw [Nat.pow_succ, Nat.mul_comm (2 ^ L) 2, ← Nat.mul_assoc]
  exact Nat.mul_le_mul_right _ (by omega)
theorem parts_le {n m L : Nat} (hb : m * 2 ^ L ≤ n) : m ≤ n := Nat.le_trans (Nat.le_mul_of_pos_right _ (Nat.pow_pos (by decide))) hb
theorem PartsI.some {n : Nat} {ps : List (List UInt8)} (h : PartsI n 0 ps) : ps ≠ [] := by
  intro e
  subst e
  have h1 := h.done
  have h2 := Lib.nDigits_pos n
  rw [← Lib.decDigits_length, ← h1] at h2
  simp at h2
theorem dec_zero : strV (Lib.decDigits 0) = .string ⟨#[48]⟩ := by rw [dec_small (by decide)]; rfl
theorem rowAt_at {H : View} {g k cap : Nat} {xs : List Value} (h : rowAt H (.slice (some ⟨g, 0, none⟩) k cap) k xs) : At H g 0 xs := by
  rcases h with ⟨h, _⟩ | ⟨g', cap', h1, h2⟩
  · cases h
  · cases h1; exact h2
end Pal

/-
  From the claims' reading of arguments to what the walks know: trees, slices of ints, the table; and the claims' end. Own work. No statement of the seat is proved here.
-/
namespace Pal
open Go Go.ChangeShapes Go.WideShapes Go.RowKit
section
variable {H : Type} {enc : TypeId × Value → H} {P : Program} {w : World} {sp : Nat → Bool} {held : Bool}

theorem mapM_get {α β : Type} {f : α → Option β} : ∀ {l : List α} {r : List β}, l.mapM f = some r → l.length = r.length ∧ ∀ (i : Nat) (a : α), l[i]? = some a → f a = r[i]?
  | [], r, h => by simp at h; subst h; exact ⟨rfl, fun i a ha => by simp at ha⟩
  | x :: l, r, h => by
    simp only [List.mapM_cons, Option.bind_eq_bind, Option.bind_eq_some_iff, Option.pure_def, Option.some.injEq] at h
    obtain ⟨y, hy, ys, hys, rfl⟩ := h
    obtain ⟨h1, h2⟩ := mapM_get hys
    refine ⟨by simp [h1], fun i a ha => ?_⟩
    cases i with
    | zero => simp at ha; subst ha; simpa using hy
    | succ i => simp at ha; simpa using h2 i a ha
theorem cells_at {a : Addr} {n : Nat} {cs : List Value} (hn : 0 < n) (h : w.cells? 0 a n = some cs) : a = ⟨a.block, a.off, none⟩ ∧ cs.length = n ∧ At (heapOf w) a.block a.off cs := by
  unfold World.cells? at h
  rw [if_pos (Nat.zero_le _)] at h
  obtain ⟨h1, h2⟩ := mapM_get h
  have hlen : cs.length = n := by simpa using h1.symm
  have hget : ∀ i, i < n → w.cell? (a.add i) = cs[i]? := fun i hi => h2 i i (by simp [hi])
  obtain ⟨b, off, spot⟩ := a
  have h0 := hget 0 hn
  have hsome : ∃ v, cs[0]? = some v := ⟨cs[0], by simp⟩
  obtain ⟨v0, hv0⟩ := hsome
  have h0' : w.cell? ⟨b, off, spot⟩ = some v0 := by rw [← hv0]; simpa [Addr.add] using h0
  unfold World.cell? at h0'
  simp only at h0'
  split at h0'
  · rename_i c T fz hb
    cases spot with
    | some s => simp at h0'
    | none =>
      refine ⟨rfl, hlen, c, T, fz, hb, fun j v hj => ?_⟩
      have hjn : j < n := by rw [← hlen]; exact (List.getElem?_eq_some_iff.1 hj).1
      have := hget j hjn
      rw [addr_add, hj] at this
      simpa [World.cell?, hb] using this
  · cases h0'
theorem i64_of_wf {n : Int} (h : (Lit.int .i64 n).wf = true) : i64ok n := by
  simp [Lit.wf, IntKind.min, IntKind.max, IntKind.bits, IntKind.signed] at h
  simp only [i64ok]
  omega
theorem read_int {t : TypeId} {fuel : Nat} {cs : List Value} {x : DataW H × List MemPlace} (ht : P.underlying t = some (.int .i64)) (h : DataW.trod enc P w 0 sp held fuel t cs = some x) : ∃ n, cs = [.int .i64 n] ∧ i64ok n := by
  obtain ⟨n, h1, _, h3⟩ := DataW.trod_int ht h
  exact ⟨n, h1, i64_of_wf h3⟩
/-- A slice whose elements have sz cells. -/
theorem read_slice {t e : TypeId} {sz fuel : Nat} {cs : List Value} {x : DataW H × List MemPlace} (ht : P.underlying t = some (.slice e)) (hce : P.cellsOf e = sz) (hsz : 0 < sz) (h : DataW.trod enc P w 0 sp held fuel t cs = some x) :
    ∃ (a : Option Addr) (len cap b off : Nat) (elems rest : List (DataW H × List MemPlace)) (rc : Nat → List Value), cs = [.slice a len cap] ∧ elems.length = len ∧ (0 < len → a = some ⟨b, off, none⟩) ∧
      (x.1 = .nil ∧ len = 0 ∨ x.1 = .slice (elems.map (·.1)) (rest.map (·.1))) ∧
      ∀ i (hi : i < elems.length), (rc i).length = sz ∧ At (heapOf w) b (off + i * sz) (rc i) ∧ ∃ m, m < fuel ∧ DataW.trod enc P w 0 sp held m e (rc i) = some elems[i] := by
  subst hce
  rcases DataW.trod_slice ht h with ⟨rfl, rfl⟩ | ⟨a, len, cap, elems, rest, n, rfl, rfl, rfl, _, _, _, hlen, hel, _⟩
  · exact ⟨none, 0, 0, 0, 0, [], [], fun _ => [], rfl, rfl, fun h => absurd h (Nat.lt_irrefl _), .inl ⟨rfl, rfl⟩, fun i hi => absurd hi (Nat.not_lt_zero _)⟩
  · have hget : ∀ i (hi : i < elems.length), ∃ ci, w.cells? 0 (a.add (i * P.cellsOf e)) (P.cellsOf e) = some ci ∧ DataW.trod enc P w 0 sp held n e ci = some elems[i] := by
      intro i hi
      have := hel i (hlen ▸ hi)
      rw [List.getElem?_eq_getElem hi] at this
      exact Option.bind_eq_some_iff.1 this
    have hspot : 0 < len → a = ⟨a.block, a.off, none⟩ := by
      intro h0
      obtain ⟨ci, h1, _⟩ := hget 0 (hlen ▸ h0)
      have := (cells_at hsz h1).1
      simpa [Addr.add] using this
    refine ⟨some a, len, cap, a.block, a.off, elems, rest, fun i => (w.cells? 0 (a.add (i * P.cellsOf e)) (P.cellsOf e)).getD [], rfl, hlen, fun h0 => congrArg some (hspot h0), .inr rfl, fun i hi => ?_⟩
    obtain ⟨ci, h1, h2⟩ := hget i hi
    have ha := hspot (by omega)
    simp only [h1, Option.getD_some]
    obtain ⟨_, h4, h5⟩ := cells_at hsz h1
    rw [ha, addr_add] at h5
    exact ⟨h4, h5, n, Nat.lt_succ_self n, h2⟩
theorem At.join {Hv : View} {b off sz : Nat} : ∀ {n : Nat} {rc : Nat → List Value}, 0 < sz → 0 < n → (∀ i, i < n → (rc i).length = sz ∧ At Hv b (off + i * sz) (rc i)) → At Hv b off ((List.range n).flatMap rc) := by
  intro n rc hsz hn h
  obtain ⟨h1, cs, T, fz, hb, h2⟩ := h 0 hn
  refine ⟨cs, T, fz, hb, ?_⟩
  clear h2 h1
  induction n with
  | zero => omega
  | succ n ih =>
    intro j v hj
    rw [List.range_succ, List.flatMap_append] at hj
    have hl : ∀ m, m ≤ n + 1 → ((List.range m).flatMap rc).length = m * sz := by
      intro m hm
      induction m with
      | zero => simp
      | succ m ihm =>
        rw [List.range_succ, List.flatMap_append, List.length_append, ihm (by omega)]
        simp [(h m (by omega)).1, Nat.add_mul]
    have hln := hl n (by omega)
    by_cases hjn : j < n * sz
    · rw [List.getElem?_append_left (by omega)] at hj
      rcases Nat.eq_zero_or_pos n with e | e
      · subst e; simp at hjn
      · exact ih e (fun i hi => h i (by omega)) j v hj
    · rw [List.getElem?_append_right (by omega), hln] at hj
      obtain ⟨_, cs2, T2, fz2, hb2, h4⟩ := h n (by omega)
      rw [hb] at hb2
      cases hb2
      have := h4 (j - n * sz) v (by simpa using hj)
      rw [show off + n * sz + (j - n * sz) = off + j by omega] at this
      exact this
/-- What a measure of readings owes (the rows' own 'uptoBulk'). -/
structure Bulk (f : DataW H → Nat) (g : List (DataW H) → Nat) : Prop where
  agg : ∀ ps, f (.agg ps) = g ps + 1
  sl : ∀ es rs, f (.slice es rs) = g es + g rs + 1
  nil : g [] = 0
  cons : ∀ d r, g (d :: r) = f d + g r
theorem Bulk.sizes {f : DataW H → Nat} {g : List (DataW H) → Nat} (hB : Bulk f g) : ∀ {ts : List Tr} {es : List (DataW H × List MemPlace)}, ts.length = es.length → (∀ i (h : i < ts.length) (h2 : i < es.length), ts[i].size ≤ f es[i].1) → Tr.sizes ts ≤ g (es.map (·.1))
  | [], [], _, _ => by simp [Tr.sizes]
  | t :: ts, e :: es, hl, h => by
    have h0 := h 0 (by simp) (by simp)
    have ih := Bulk.sizes hB (ts := ts) (es := es) (by simpa using hl) (fun i h1 h2 => h (i + 1) (Nat.succ_lt_succ h1) (Nat.succ_lt_succ h2))
    simp only [List.getElem_cons_zero] at h0
    simp only [Tr.sizes, List.map_cons, hB.cons]
    omega
  | [], _ :: _, hl, _ => by simp at hl
  | _ :: _, [], hl, _ => by simp at hl
/-- Arguments read behind a call asx they read before, where no old block was turned. -/
theorem trodAll_stays {W W' : World} (hl : laidOutB P = true) (hsame : ∀ b, b < W.heap.size → W'.heap[b]? = W.heap[b]?) {sp' : Nat → Bool} : ∀ {ts : List TypeId} {vs : List Value} {ds : List (DataW H)} {ps : List MemPlace},
    (∀ t ∈ ts, P.readableRec t = true ∧ t < P.types.size) → DataW.TrodAll enc P W 0 (fun _ => true) true ts vs ds ps → (∀ p ∈ ps, p.block < W.heap.size) → (∀ p ∈ ps, sp' p.block = true) → DataW.TrodAll enc P W' 0 sp' true ts vs ds ps
  | [], [], [], _, _, h, _, _ => h
  | t :: ts, v :: vs, d :: ds, ps, ht, h, hlt, hsp => by
    obtain ⟨p, q, h1, h2, rfl⟩ := h
    obtain ⟨hr, hrow⟩ := ht t (by simp)
    refine ⟨p, q, WideElems.Trod_stays hl hr hrow h1 (fun x hx => ?_) (fun x hx => hsp x (List.mem_append_left _ hx)), trodAll_stays hl hsame (fun t ht' => ht t (by simp [ht'])) h2 (fun x hx => hlt x (List.mem_append_right _ hx)) (fun x hx => hsp x (List.mem_append_right _ hx)), rfl⟩
    have hb := hlt x (List.mem_append_left _ hx)
    cases x with
    | cell b off =>
      have := hsame b hb
      simp [World.sameAt, World.cell?, this]
    | map b => exact hsame b hb
  | [], _ :: _, _, _, _, h, _, _ => by simp [DataW.TrodAll] at h
  | [], [], _ :: _, _, _, h, _, _ => by simp [DataW.TrodAll] at h
  | _ :: _, [], _, _, _, h, _, _ => by simp [DataW.TrodAll] at h
  | _ :: _, _ :: _, [], _, _, h, _, _ => by simp [DataW.TrodAll] at h
end
end Pal

/-
  How many trees: the law's numbers stay small; a row's end where the draws are not told. Own work. No statement of the seat is proved here.
-/
namespace Pal
open Go Go.Proofs Go.Proofs.X
theorem sumA_part {d : Dt} (h8 : d.ranks.length ≤ 8) (hn : d.acc.length ≤ 8) {k q : Nat} (hk : k ≤ 12) (hq : q ≤ d.acc.length) : (sumN q fun x => if d.acc.getD x false = true then cD d k (x : Int) else 0) < 10 ^ 60 ∧ (sumN q fun x => if d.acc.getD x false = true then cD d k (x : Int) else 0) < 2 ^ 200 := by
  have h1 := sumN_bound (n := q) (B := 32768 ^ 12) (f := fun x => if d.acc.getD x false = true then cD d k (x : Int) else 0) fun x _ => by
    split
    · exact Nat.le_trans (cD_bound h8 hn k (by omega) _) (Nat.pow_le_pow_right (by decide) hk)
    · exact Nat.zero_le _
  have h2 : q * 32768 ^ 12 ≤ 8 * 32768 ^ 12 := Nat.mul_le_mul_right _ (by omega)
  have h3 : 8 * 32768 ^ 12 < 10 ^ 60 := by decide
  have h4 : 8 * 32768 ^ 12 < 2 ^ 200 := by decide
  exact ⟨by omega, by omega⟩
theorem count_bad {d : Dt} (hde : dtErr d = 0) {size : Int} (h : size < 0 ∨ 64 < size) : countErr d size = 2 := by
  unfold countErr; rw [if_neg (not_not_intro hde), if_pos h]
end Pal
namespace Pal
open Go Go.ChangeShapes Go.WideShapes Go.RowKit
section
variable {H : Type} {enc : TypeId × Value → H} {P : Program} {w : World} {sp : Nat → Bool} {held : Bool}
theorem true_postZ {fn : Func} {s : ChangeSpec} {apart fresh handsOn again : Bool} {W W' : World} {args : Array Value} {ds gs : List (DataW H)} {before : List MemPlace} {tb : TypeId} {Hv Hv' : View} {hl' : HL}
    (hl : laidOutB P = true) (hpar : ∀ t ∈ fn.params.toList, P.readableRec t = true ∧ t < P.types.size) (hrt : fn.resultTypes = #[tb]) (hu : P.underlying tb = some .bool) (hvs : s.vars = [])
    (hfn : s.fn H ds = { results := [.lit (.bool true)], args := ds }) (hW : DataW.Whole enc P fn.params.toList s.vars apart W args.toList ds gs before) (hok : Ok ⟨w0Z W, Hv, []⟩ W' Hv' hl') :
    s.post enc P fn apart fresh handsOn again W args (.bool true) W' := by
  have hsame : ∀ b, b < W.heap.size → W'.heap[b]? = W.heap[b]? := fun b hb => hok.old b hb (by simp)
  have hlt := hW.lt
  obtain ⟨pa, pv, hA, hV, hps, hz, hn⟩ := id hW
  rw [hvs] at hV
  obtain ⟨hgs, hpv⟩ := trodVars_none hV
  subst hgs
  subst hpv
  rw [List.append_nil] at hps
  subst hps
  have hfn' : s.fn H (ds ++ []) = { results := [.lit (.bool true)], args := ds } := by rw [List.append_nil]; exact hfn
  have hres : ∀ (b : Nat) (sp : Nat → Bool) (hd : Bool), DataW.TrodAll enc P W' b sp hd fn.resultTypes.toList ((Value.bool true).resultList fn.resultTypes.size) (s.fn H (ds ++ [])).results [] := by
    intro b sp hd
    rw [hfn', hrt]
    exact trodAll_mk1 ⟨1, by simp [DataW.trod, Value.cells, hu]⟩
  have hargs : ∀ sp : Nat → Bool, (∀ p ∈ before, sp p.block = true) → DataW.TrodAll enc P W' 0 sp true fn.params.toList args.toList (s.fn H (ds ++ [])).args before := by
    intro sp hsp
    rw [hfn']
    exact trodAll_stays hl hsame hpar hA hlt hsp
  have hvars : ∀ sp : Nat → Bool, DataW.TrodVars enc P W' sp s.vars (s.fn H (ds ++ [])).vars [] := by
    intro sp
    rw [hfn', hvs]
    rfl
  have hk : ∀ may : MemPlace → Prop, W.keptBut W' may := by
    intro may
    refine ⟨hok.os, hok.output, fun i hi => ?_⟩
    rw [hsame i hi]
    cases hw : W.heap[i]? with
    | none => rfl
    | some o => cases o <;> simp
  have hold : ∀ p ∈ before, (fun b => decide (b < W.heap.size)) p.block = true := fun p hp => by simpa using hlt p hp
  have hfz : ∀ b off, MemPlace.cell b off ∈ before → W'.frozen? ⟨b, off, none⟩ = false := by
    intro b off hp
    rw [← hz b off hp]
    simp [World.frozen?, hsame b (hlt _ hp)]
  refine ⟨ds, [], before, [], before, [], hW, hres _ _ _, hargs _ hold, hvars _, hk _, fun _ => ⟨ok_one hrt rfl (okWide_bool_mk hu true), _, _, ([] ++ before) ++ [], ⟨[] ++ before, [], trodAll_append (hargs _ (fun _ _ => rfl)) (hres _ _ _), hvars _, rfl, ?_, ?_⟩, ?_⟩⟩
  · intro b off hp
    exact hfz b off (by simpa using hp)
  · intro ha
    have := hn ha
    simpa using this
  · intro p hp _
    simpa using hp
end
end Pal

/-
  DERIVED: THE SHELF's CONTRACTS AT THIS DUMP, IN PLAIN WORDS (tools/lay-plain.mjs out of 'StrECs.lean', which tools/lay-shelf.mjs wrote): THE SAME DECLARATIONS UNDER THE SAME NAMES: 'import', 'namespace', 'open', 'def', 'theorem' AND NOTHING ELSE: no command of the shelf's: FOR A HAND-IN. Each laying: the table of numbers ('.._ren') and one theorem, a field a fact of the dump's own or the kernel's comparison; each contract: ONE APPLICATION.
-/
namespace Go.Proofs
open Go.Shelf
def Tryz.lRep_ren : Go.Shelf.Ren := ⟨fun | 105 => 30 | 212 => 60 | 99 => 61 | 165 => 62 | 166 => 63 | 170 => 64 | 169 => 65 | 263 => 94 | 264 => 95 | 206 => 96 | 240 => 97 | 241 => 98 | 276 => 117 | 277 => 118 | n => n, fun | 9 => 9 | 3 => 3 | 4 => 4 | 20 => 20 | 0 => 0 | 46 => 104 | 109 => 115 | 5 => 5 | 72 => 120 | 76 => 124 | 51 => 102 | 146 => 151 | 53 => 66 | 148 => 153 | 70 => 118 | 37 => 84 | 75 => 123 | 127 => 155 | 164 => 171 | 80 => 43 | n => n, fun | n => n⟩
theorem Tryz.lRep : Go.Proofs.Lays.n105 Tryz.prog Tryz.lRep_ren := {
  mixed := by kernel_rfl
  f99 := Tryz.func61.trans (congrArg some (by kernel_rfl))
  f105 := Tryz.func30.trans (congrArg some (by kernel_rfl))
  f165 := Tryz.func62.trans (congrArg some (by kernel_rfl))
  f166 := Tryz.func63.trans (congrArg some (by kernel_rfl))
  f169 := Tryz.func65.trans (congrArg some (by kernel_rfl))
  f170 := Tryz.func64.trans (congrArg some (by kernel_rfl))
  f206 := Tryz.func96.trans (congrArg some (by kernel_rfl))
  f212 := Tryz.func60.trans (congrArg some (by kernel_rfl))
  f240 := Tryz.func97.trans (congrArg some (by kernel_rfl))
  f241 := Tryz.func98.trans (congrArg some (by kernel_rfl))
  f263 := Tryz.func94.trans (congrArg some (by kernel_rfl))
  f264 := Tryz.func95.trans (congrArg some (by kernel_rfl))
  f276 := Tryz.func117.trans (congrArg some (by kernel_rfl))
  f277 := Tryz.func118.trans (congrArg some (by kernel_rfl))
  t0 := Tryz.underlying0
  a0 := Tryz.isAgg0
  z0 := Tryz.sizeOf0
  v0 := Tryz.zeroValue0
  t3 := Tryz.underlying3
  a3 := Tryz.isAgg3
  z3 := Tryz.sizeOf3
  v3 := Tryz.zeroValue3
  t4 := Tryz.underlying4
  a4 := Tryz.isAgg4
  z4 := Tryz.sizeOf4
  v4 := Tryz.zeroValue4
  t5 := Tryz.underlying5
  a5 := Tryz.isAgg5
  z5 := Tryz.sizeOf5
  v5 := Tryz.zeroValue5
  t9 := Tryz.underlying9
  a9 := Tryz.isAgg9
  z9 := Tryz.sizeOf9
  v9 := Tryz.zeroValue9
  t20 := Tryz.underlying20
  a20 := Tryz.isAgg20
  z20 := Tryz.sizeOf20
  v20 := Tryz.zeroValue20
  t37 := Tryz.underlying84
  a37 := Tryz.isAgg84
  z37 := Tryz.sizeOf84
  v37 := Tryz.zeroValue84
  t46 := Tryz.underlying104
  a46 := Tryz.isAgg104
  z46 := Tryz.sizeOf104
  v46 := Tryz.zeroValue104
  t51 := Tryz.underlying102
  a51 := Tryz.isAgg102
  z51 := Tryz.sizeOf102
  v51 := Tryz.zeroValue102
  t53 := Tryz.underlying66
  a53 := Tryz.isAgg66
  z53 := Tryz.sizeOf66
  v53 := Tryz.zeroValue66
  t70 := Tryz.underlying118
  a70 := Tryz.isAgg118
  z70 := Tryz.sizeOf118
  v70 := Tryz.zeroValue118
  t72 := Tryz.underlying120
  a72 := Tryz.isAgg120
  z72 := Tryz.sizeOf120
  v72 := Tryz.zeroValue120
  t75 := Tryz.underlying123
  a75 := Tryz.isAgg123
  z75 := Tryz.sizeOf123
  v75 := Tryz.zeroValue123
  t76 := Tryz.underlying124
  a76 := Tryz.isAgg124
  z76 := Tryz.sizeOf124
  v76 := Tryz.zeroValue124
  t109 := Tryz.underlying115
  a109 := Tryz.isAgg115
  z109 := Tryz.sizeOf115
  v109 := Tryz.zeroValue115
  t127 := Tryz.underlying155
  a127 := Tryz.isAgg155
  z127 := Tryz.sizeOf155
  v127 := Tryz.zeroValue155
  t146 := Tryz.underlying151
  a146 := Tryz.isAgg151
  z146 := Tryz.sizeOf151
  v146 := Tryz.zeroValue151
  t148 := Tryz.underlying153
  a148 := Tryz.isAgg153
  z148 := Tryz.sizeOf153
  v148 := Tryz.zeroValue153
  t164 := Tryz.underlying171
  a164 := Tryz.isAgg171
  z164 := Tryz.sizeOf171
  v164 := Tryz.zeroValue171 }
def Tryz.lJoin_ren : Go.Shelf.Ren := ⟨fun | 156 => 32 | 165 => 62 | 166 => 63 | 169 => 65 | 240 => 97 | 241 => 98 | 276 => 117 | 277 => 118 | n => n, fun | 31 => 77 | 9 => 9 | 3 => 3 | 4 => 4 | 0 => 0 | 20 => 20 | 72 => 120 | 76 => 124 | 70 => 118 | 37 => 84 | 75 => 123 | 127 => 155 | 164 => 171 | 5 => 5 | 80 => 43 | n => n, fun | n => n⟩
theorem Tryz.lJoin : Go.Proofs.Lays.n156 Tryz.prog Tryz.lJoin_ren := {
  mixed := by kernel_rfl
  f156 := Tryz.func32.trans (congrArg some (by kernel_rfl))
  f165 := Tryz.func62.trans (congrArg some (by kernel_rfl))
  f166 := Tryz.func63.trans (congrArg some (by kernel_rfl))
  f169 := Tryz.func65.trans (congrArg some (by kernel_rfl))
  f240 := Tryz.func97.trans (congrArg some (by kernel_rfl))
  f241 := Tryz.func98.trans (congrArg some (by kernel_rfl))
  f276 := Tryz.func117.trans (congrArg some (by kernel_rfl))
  f277 := Tryz.func118.trans (congrArg some (by kernel_rfl))
  t0 := Tryz.underlying0
  a0 := Tryz.isAgg0
  z0 := Tryz.sizeOf0
  v0 := Tryz.zeroValue0
  t3 := Tryz.underlying3
  a3 := Tryz.isAgg3
  z3 := Tryz.sizeOf3
  v3 := Tryz.zeroValue3
  t4 := Tryz.underlying4
  a4 := Tryz.isAgg4
  z4 := Tryz.sizeOf4
  v4 := Tryz.zeroValue4
  t9 := Tryz.underlying9
  a9 := Tryz.isAgg9
  z9 := Tryz.sizeOf9
  v9 := Tryz.zeroValue9
  t20 := Tryz.underlying20
  a20 := Tryz.isAgg20
  z20 := Tryz.sizeOf20
  v20 := Tryz.zeroValue20
  t31 := Tryz.underlying77
  a31 := Tryz.isAgg77
  z31 := Tryz.sizeOf77
  v31 := Tryz.zeroValue77
  t37 := Tryz.underlying84
  a37 := Tryz.isAgg84
  z37 := Tryz.sizeOf84
  v37 := Tryz.zeroValue84
  t70 := Tryz.underlying118
  a70 := Tryz.isAgg118
  z70 := Tryz.sizeOf118
  v70 := Tryz.zeroValue118
  t72 := Tryz.underlying120
  a72 := Tryz.isAgg120
  z72 := Tryz.sizeOf120
  v72 := Tryz.zeroValue120
  t75 := Tryz.underlying123
  a75 := Tryz.isAgg123
  z75 := Tryz.sizeOf123
  v75 := Tryz.zeroValue123
  t76 := Tryz.underlying124
  a76 := Tryz.isAgg124
  z76 := Tryz.sizeOf124
  v76 := Tryz.zeroValue124
  t127 := Tryz.underlying155
  a127 := Tryz.isAgg155
  z127 := Tryz.sizeOf155
  v127 := Tryz.zeroValue155
  t164 := Tryz.underlying171
  a164 := Tryz.isAgg171
  z164 := Tryz.sizeOf171
  v164 := Tryz.zeroValue171 }
def Tryz.lSmall_ren : Go.Shelf.Ren := ⟨fun | 283 => 90 | n => n, fun | 3 => 3 | 9 => 9 | 4 => 4 | n => n, fun | n => n⟩
theorem Tryz.lSmall : Go.Proofs.Lays.n283 Tryz.prog Tryz.lSmall_ren := {
  mixed := by kernel_rfl
  f283 := Tryz.func90.trans (congrArg some (by kernel_rfl))
  t3 := Tryz.underlying3
  a3 := Tryz.isAgg3
  z3 := Tryz.sizeOf3
  v3 := Tryz.zeroValue3
  t4 := Tryz.underlying4
  a4 := Tryz.isAgg4
  z4 := Tryz.sizeOf4
  v4 := Tryz.zeroValue4
  t9 := Tryz.underlying9
  a9 := Tryz.isAgg9
  z9 := Tryz.sizeOf9
  v9 := Tryz.zeroValue9 }
def Tryz.lNum_ren : Go.Shelf.Ren := ⟨fun | 284 => 91 | 129 => 113 | 317 => 112 | 318 => 114 | n => n, fun | 53 => 66 | 3 => 3 | 212 => 168 | 0 => 0 | 4 => 4 | 46 => 104 | 5 => 5 | 9 => 9 | n => n, fun | 17 => 0 | n => n⟩
theorem Tryz.lNum : Go.Proofs.LaysM.n284 Tryz.prog Tryz.lNum_ren := {
  mixed := by kernel_rfl
  f129 := Tryz.func113.trans (congrArg some (by kernel_rfl))
  f284 := Tryz.func91.trans (congrArg some (by kernel_rfl))
  f317 := Tryz.func112.trans (congrArg some (by kernel_rfl))
  f318 := Tryz.func114.trans (congrArg some (by kernel_rfl))
  t0 := Tryz.underlying0
  a0 := Tryz.isAgg0
  z0 := Tryz.sizeOf0
  v0 := Tryz.zeroValue0
  t3 := Tryz.underlying3
  a3 := Tryz.isAgg3
  z3 := Tryz.sizeOf3
  v3 := Tryz.zeroValue3
  t4 := Tryz.underlying4
  a4 := Tryz.isAgg4
  z4 := Tryz.sizeOf4
  v4 := Tryz.zeroValue4
  t5 := Tryz.underlying5
  a5 := Tryz.isAgg5
  z5 := Tryz.sizeOf5
  v5 := Tryz.zeroValue5
  t9 := Tryz.underlying9
  a9 := Tryz.isAgg9
  z9 := Tryz.sizeOf9
  v9 := Tryz.zeroValue9
  t46 := Tryz.underlying104
  a46 := Tryz.isAgg104
  z46 := Tryz.sizeOf104
  v46 := Tryz.zeroValue104
  t53 := Tryz.underlying66
  a53 := Tryz.isAgg66
  z53 := Tryz.sizeOf66
  v53 := Tryz.zeroValue66
  t212 := Tryz.underlying168
  a212 := Tryz.isAgg168
  z212 := Tryz.sizeOf168
  v212 := Tryz.zeroValue168
  g17 := by kernel_rfl
  i0 := by kernel_rfl
  i3 := by kernel_rfl
  i4 := by kernel_rfl
  i5 := by kernel_rfl
  i9 := by kernel_rfl
  i46 := by kernel_rfl
  i53 := by kernel_rfl
  i212 := by kernel_rfl
  m17 := by kernel_rfl }
def Tryz.lFmt_ren : Go.Shelf.Ren := ⟨fun | 285 => 92 | n => n, fun | 37 => 84 | 53 => 66 | 3 => 3 | 4 => 4 | 51 => 102 | 9 => 9 | 5 => 5 | 0 => 0 | n => n, fun | n => n⟩
theorem Tryz.lFmt : Go.Proofs.Lays.n285 Tryz.prog Tryz.lFmt_ren := {
  mixed := by kernel_rfl
  f285 := Tryz.func92.trans (congrArg some (by kernel_rfl))
  t0 := Tryz.underlying0
  a0 := Tryz.isAgg0
  z0 := Tryz.sizeOf0
  v0 := Tryz.zeroValue0
  t3 := Tryz.underlying3
  a3 := Tryz.isAgg3
  z3 := Tryz.sizeOf3
  v3 := Tryz.zeroValue3
  t4 := Tryz.underlying4
  a4 := Tryz.isAgg4
  z4 := Tryz.sizeOf4
  v4 := Tryz.zeroValue4
  t5 := Tryz.underlying5
  a5 := Tryz.isAgg5
  z5 := Tryz.sizeOf5
  v5 := Tryz.zeroValue5
  t9 := Tryz.underlying9
  a9 := Tryz.isAgg9
  z9 := Tryz.sizeOf9
  v9 := Tryz.zeroValue9
  t37 := Tryz.underlying84
  a37 := Tryz.isAgg84
  z37 := Tryz.sizeOf84
  v37 := Tryz.zeroValue84
  t51 := Tryz.underlying102
  a51 := Tryz.isAgg102
  z51 := Tryz.sizeOf102
  v51 := Tryz.zeroValue102
  t53 := Tryz.underlying66
  a53 := Tryz.isAgg66
  z53 := Tryz.sizeOf66
  v53 := Tryz.zeroValue66 }
def Tryz.lRev_ren : Go.Shelf.Ren := ⟨fun | 17 => 31 | n => n, fun | 24 => 77 | 9 => 9 | 3 => 3 | 4 => 4 | 0 => 0 | n => n, fun | n => n⟩
theorem Tryz.lRev : Go.Proofs.Lays2.n17 Tryz.prog Tryz.lRev_ren := {
  mixed := by kernel_rfl
  f17 := Tryz.func31.trans (congrArg some (by kernel_rfl))
  t0 := Tryz.underlying0
  a0 := Tryz.isAgg0
  z0 := Tryz.sizeOf0
  v0 := Tryz.zeroValue0
  t3 := Tryz.underlying3
  a3 := Tryz.isAgg3
  z3 := Tryz.sizeOf3
  v3 := Tryz.zeroValue3
  t4 := Tryz.underlying4
  a4 := Tryz.isAgg4
  z4 := Tryz.sizeOf4
  v4 := Tryz.zeroValue4
  t9 := Tryz.underlying9
  a9 := Tryz.isAgg9
  z9 := Tryz.sizeOf9
  v9 := Tryz.zeroValue9
  t24 := Tryz.underlying77
  a24 := Tryz.isAgg77
  z24 := Tryz.sizeOf77
  v24 := Tryz.zeroValue77 }
theorem Tryz.lRepX : Builder.Extra Tryz.prog Tryz.lRep_ren := {
  sizeBuilder := by kernel_rfl
  liesBuilder := by kernel_rfl
  t5 := Tryz.underlying5
  a5 := Tryz.isAgg5
  z5 := Tryz.sizeOf5
  v5 := Tryz.zeroValue5
  infoByte := by kernel_rfl
  cellsByte := by kernel_rfl
  sizeByte := by kernel_rfl
  neB5 := by decide }
theorem Tryz.lJoinX : Builder.Extra Tryz.prog Tryz.lJoin_ren := {
  sizeBuilder := by kernel_rfl
  liesBuilder := by kernel_rfl
  t5 := Tryz.underlying5
  a5 := Tryz.isAgg5
  z5 := Tryz.sizeOf5
  v5 := Tryz.zeroValue5
  infoByte := by kernel_rfl
  cellsByte := by kernel_rfl
  sizeByte := by kernel_rfl
  neB5 := by decide }
end Go.Proofs

/-
  A region that draws its order and in which nothing acts: what reads may read the blocks that were made in it. Own work. No statement of the seat is proved here.
-/
namespace Pal
open Go
section
variable {P : Program} {ops : Array Oper} {H H' : View} {hl hl' : HL} {l l' : KL}
theorem ValOk.sub {op : Op} {ty : TypeId} {v : Value} (hs : List.Sublist hl hl') (hv : ValOk P l H hl op ty v) : ValOk P l H hl' op ty v := fun e w hk hh => hv e w hk (hh.sublist hs)
theorem ValOk.permR {op : Op} {ty : TypeId} {v : Value} (hp : hl.Perm hl') (hv : ValOk P l H hl op ty v) : ValOk P l H hl' op ty v := fun e w hk hh => hv e w hk (hh.perm hp.symm)
def XR (P : Program) (n : Nat) (ops : Array Oper) (o : Oper) (F : ST) : ST := fun l hl H =>
  (wl ops l o = some false ∧ F (insl o.dst undef l) hl H) ∨
  (wl ops l o = some true ∧ ((cls o.op = 0 ∧ ∃ v, ValOk P l H hl o.op o.type v ∧ F (insl o.dst v l) hl H) ∨ (cls o.op = 1 ∧ ∃ mk obj, AllocOk P l o.op o.type mk obj ∧ ∀ b, F (insl o.dst (mk b) l) (blk b obj :: hl) H)))
theorem XR.mono {n : Nat} {o : Oper} {F F' : ST} (hF : ∀ l hl H, F l hl H → F' l hl H) (h : XR P n ops o F l hl H) : XR P n ops o F' l hl H := by
  rcases h with ⟨h1, h2⟩ | ⟨h1, ⟨h2, v, h3, h4⟩ | ⟨h2, mk, obj, h3, h4⟩⟩
  · exact .inl ⟨h1, hF _ _ _ h2⟩
  · exact .inr ⟨h1, .inl ⟨h2, v, h3, hF _ _ _ h4⟩⟩
  · exact .inr ⟨h1, .inr ⟨h2, mk, obj, h3, fun b => hF _ _ _ (h4 b)⟩⟩
theorem XR.inv {n : Nat} {o : Oper} {F : ST} (hs : noSel o.op = true) (hF : Inv F) : Inv (XR P n ops o F) := by
  constructor
  · intro l l' hl H he h
    rcases h with ⟨h1, h2⟩ | ⟨h1, ⟨h2, v, h3, h4⟩ | ⟨h2, mk, obj, h3, h4⟩⟩
    · exact .inl ⟨by rw [← wl_agree he.agree]; exact h1, hF.l (he.insl _ _) h2⟩
    · exact .inr ⟨by rw [← wl_agree he.agree]; exact h1, .inl ⟨h2, v, h3.agree (ops := ops) hs he.agree, hF.l (he.insl _ _) h4⟩⟩
    · exact .inr ⟨by rw [← wl_agree he.agree]; exact h1, .inr ⟨h2, mk, obj, h3.agree (ops := ops) hs he.agree, fun b => hF.l (he.insl _ _) (h4 b)⟩⟩
  · intro l hl hl' H hp h
    rcases h with ⟨h1, h2⟩ | ⟨h1, ⟨h2, v, h3, h4⟩ | ⟨h2, mk, obj, h3, h4⟩⟩
    · exact .inl ⟨h1, hF.p hp h2⟩
    · exact .inr ⟨h1, .inl ⟨h2, v, h3.permR hp, hF.p hp h4⟩⟩
    · exact .inr ⟨h1, .inr ⟨h2, mk, obj, h3, fun b => hF.p (hp.cons _) (h4 b)⟩⟩
theorem XR.swap {n : Nat} {y x : Oper} {F : ST} (hF : Inv F) (hsy : noSel y.op = true) (hsx : noSel x.op = true) (hap : y.apart ops x = true) (hy : cls y.op = 0 ∨ wl ops l y = some false)
    (h : XR P n ops y (XR P n ops x F) l hl H) : XR P n ops x (XR P n ops y F) l hl H := by
  obtain ⟨a1, a2, a3⟩ := Oper.apart_spec hap
  have agx : ∀ (v : Value) (l : KL), Agree ops x l (insl y.dst v l) := fun v l => agree_insl (fun k hk => a1 k hk) v l
  have agy : ∀ (v : Value) (l : KL), Agree ops y l (insl x.dst v l) := fun v l => agree_insl (fun k hk => a3 k hk) v l
  have sw : ∀ (u v : Value) (l : KL), LEq (insl x.dst v (insl y.dst u l)) (insl y.dst u (insl x.dst v l)) := fun u v l =>
    LEq.inslSwap (fun d hd he => a2 d he hd) v u l
  have body : ∀ (u : Value), (∀ (v : Value) (hl' : HL), List.Sublist hl hl' → F (insl x.dst v (insl y.dst u l)) hl' H → XR P n ops y F (insl x.dst v l) hl' H) → XR P n ops x F (insl y.dst u l) hl H → XR P n ops x (XR P n ops y F) l hl H := by
    intro u hb hx
    rcases hx with ⟨h1, h2⟩ | ⟨h1, ⟨h2, v, h3, h4⟩ | ⟨h2, mk, obj, h3, h4⟩⟩
    · exact .inl ⟨by rw [wl_agree (agx u l)]; exact h1, hb _ _ (List.Sublist.refl _) h2⟩
    · exact .inr ⟨by rw [wl_agree (agx u l)]; exact h1, .inl ⟨h2, v, h3.agree (ops := ops) hsx (agx u l).symm, hb _ _ (List.Sublist.refl _) h4⟩⟩
    · exact .inr ⟨by rw [wl_agree (agx u l)]; exact h1, .inr ⟨h2, mk, obj, h3.agree (ops := ops) hsx (agx u l).symm, fun b => hb _ _ (List.sublist_cons_self _ _) (h4 b)⟩⟩
  rcases h with ⟨h1, h2⟩ | ⟨h1, h2⟩
  · exact body undef (fun v hl' _ hf => .inl ⟨by rw [← wl_agree (agy v l)]; exact h1, hF.l (sw undef v l) hf⟩) h2
  · have hy0 : cls y.op = 0 := hy.resolve_right (fun e => by rw [h1] at e; cases e)
    rcases h2 with ⟨_, u, h3, h4⟩ | ⟨h2, _⟩
    · exact body u (fun v hl' hs hf => .inr ⟨by rw [← wl_agree (agy v l)]; exact h1, .inl ⟨hy0, u, (h3.agree (ops := ops) hsy (agy v l)).sub hs, hF.l (sw u v l) hf⟩⟩) h4
    · omega
def KR (P : Program) (n : Nat) (ops : Array Oper) (T : ST) : List Nat → ST
  | [] => T
  | i :: R => fun l hl H => ∃ o, ops[i]? = some o ∧ XR P n ops o (KR P n ops T R) l hl H
theorem KR.inv {n : Nat} {T : ST} (hs : selOk ops) (hT : Inv T) : ∀ R, Inv (KR P n ops T R)
  | [] => hT
  | i :: R => ⟨fun he ⟨o, h1, h2⟩ => ⟨o, h1, (XR.inv (hs i o h1) (KR.inv hs hT R)).l he h2⟩, fun hp ⟨o, h1, h2⟩ => ⟨o, h1, (XR.inv (hs i o h1) (KR.inv hs hT R)).p hp h2⟩⟩
theorem KR.ahead {n : Nat} {T : ST} {x : Nat} {ox : Oper} (hs : selOk ops) (hx : ops[x]? = some ox) (hc : cls ox.op = 1) :
    ∀ (pre post : List Nat) (l : KL) (hl : HL) (H : View), (∀ y ∈ pre, freeI ops y x) → KR P n ops T (pre ++ x :: post) l hl H →
      wl ops l ox = some false ∨ (wl ops l ox = some true ∧ ∃ mk obj, AllocOk P l ox.op ox.type mk obj)
  | [], post, l, hl, H, _, h => by
    obtain ⟨o, h1, h2⟩ := h
    rw [hx] at h1; cases h1
    rcases h2 with ⟨h1, _⟩ | ⟨h1, ⟨h2, _⟩ | ⟨_, mk, obj, h3, _⟩⟩
    · exact .inl h1
    · omega
    · exact .inr ⟨h1, mk, obj, h3⟩
  | y :: pre, post, l, hl, H, hf, h => by
    obtain ⟨oy, h1, h2⟩ := h
    have hap := (hf y (by simp) oy ox h1 hx).1
    obtain ⟨a1, a2, a3⟩ := Oper.apart_spec hap
    have ag : ∀ (v : Value), Agree ops ox l (insl oy.dst v l) := fun v => agree_insl (fun k hk => a1 k hk) v l
    have back : ∀ (v : Value), (wl ops (insl oy.dst v l) ox = some false ∨ (wl ops (insl oy.dst v l) ox = some true ∧ ∃ mk obj, AllocOk P (insl oy.dst v l) ox.op ox.type mk obj)) →
        wl ops l ox = some false ∨ (wl ops l ox = some true ∧ ∃ mk obj, AllocOk P l ox.op ox.type mk obj) := by
      intro v hb
      rw [wl_agree (ag v)]
      rcases hb with hb | ⟨hb, mk, obj, h3⟩
      · exact .inl hb
      · exact .inr ⟨hb, mk, obj, h3.agree (ops := ops) (hs x ox hx) (ag v).symm⟩
    have ih := fun l hl H (hk : KR P n ops T (pre ++ x :: post) l hl H) => KR.ahead hs hx hc pre post l hl H (fun z hz => hf z (List.mem_cons_of_mem _ hz)) hk
    rcases h2 with ⟨_, h2⟩ | ⟨_, ⟨_, v, _, h4⟩ | ⟨_, mk, obj, _, h4⟩⟩
    · exact back _ (ih _ _ _ h2)
    · exact back _ (ih _ _ _ h4)
    · exact back _ (ih _ _ _ (h4 0))
theorem KR.outA {n : Nat} {T : ST} {x : Nat} {ox : Oper} {v : Value} {extra : HL} (hs : selOk ops) (hT : Inv T) (hx : ops[x]? = some ox) :
    ∀ (pre post : List Nat) (l : KL) (hl : HL) (H : View), (∀ y ∈ pre, ∀ oy, ops[y]? = some oy → oy.apart ops ox = true) →
      (∀ (l' : KL) (hl' : HL) (H' : View) (F : ST), Agree ops ox l l' → XR P n ops ox F l' hl' H' → F (insl ox.dst v l') (extra ++ hl') H') →
      KR P n ops T (pre ++ x :: post) l hl H → KR P n ops T (pre ++ post) (insl ox.dst v l) (extra ++ hl) H
  | [], post, l, hl, H, _, hX, h => by
    obtain ⟨o, h1, h2⟩ := h
    rw [hx] at h1; cases h1
    exact hX l hl H _ (fun _ _ => rfl) h2
  | y :: pre, post, l, hl, H, hf, hX, h => by
    obtain ⟨oy, h1, h2⟩ := h
    obtain ⟨a1, a2, a3⟩ := Oper.apart_spec (hf y (by simp) oy h1)
    have agx : ∀ (u : Value), Agree ops ox l (insl oy.dst u l) := fun u => agree_insl (fun k hk => a1 k hk) u l
    have agy : Agree ops oy l (insl ox.dst v l) := agree_insl (fun k hk => a3 k hk) v l
    have sw : ∀ (u : Value), LEq (insl ox.dst v (insl oy.dst u l)) (insl oy.dst u (insl ox.dst v l)) := fun u => LEq.inslSwap (fun d hd he => a2 d he hd) v u l
    have hinv := KR.inv (P := P) (n := n) hs hT (pre ++ post)
    have ih := fun (u : Value) (hl' : HL) (H' : View) (hk : KR P n ops T (pre ++ x :: post) (insl oy.dst u l) hl' H') =>
      KR.outA hs hT hx pre post (insl oy.dst u l) hl' H' (fun z hz => hf z (List.mem_cons_of_mem _ hz))
        (fun l' hl' H' F ha => hX l' hl' H' F ((agx u).trans ha)) hk
    refine ⟨oy, h1, ?_⟩
    rcases h2 with ⟨h1', h2⟩ | ⟨h1', ⟨h2, u, h3, h4⟩ | ⟨h2, mk, obj, h3, h4⟩⟩
    · exact .inl ⟨by rw [← wl_agree agy]; exact h1', hinv.l (sw undef) (ih _ _ _ h2)⟩
    · exact .inr ⟨by rw [← wl_agree agy]; exact h1', .inl ⟨h2, u, (h3.agree (ops := ops) (hs y oy h1) agy).sub (List.sublist_append_right _ _), hinv.l (sw u) (ih _ _ _ h4)⟩⟩
    · refine .inr ⟨by rw [← wl_agree agy]; exact h1', .inr ⟨h2, mk, obj, h3.agree (ops := ops) (hs y oy h1) agy, fun b => ?_⟩⟩
      refine hinv.p ?_ (hinv.l (sw (mk b)) (ih _ _ _ (h4 b)))
      exact List.perm_middle
theorem KR.outC {n : Nat} {T : ST} {x : Nat} {ox : Oper} (hs : selOk ops) (hT : Inv T) (hx : ops[x]? = some ox) :
    ∀ (pre post : List Nat) (l : KL) (hl : HL) (H : View), (∀ y ∈ pre, ∀ oy, ops[y]? = some oy → oy.apart ops ox = true ∧ cls oy.op = 0) →
      KR P n ops T (pre ++ x :: post) l hl H → KR P n ops T (x :: (pre ++ post)) l hl H
  | [], post, l, hl, H, _, h => h
  | y :: pre, post, l, hl, H, hf, h => by
    obtain ⟨oy, h1, h2⟩ := h
    obtain ⟨hap, hc⟩ := hf y (by simp) oy h1
    have ih := fun l hl H (hk : KR P n ops T (pre ++ x :: post) l hl H) => KR.outC hs hT hx pre post l hl H (fun z hz => hf z (List.mem_cons_of_mem _ hz)) hk
    have h3 : XR P n ops oy (XR P n ops ox (KR P n ops T (pre ++ post))) l hl H := by
      refine XR.mono (fun l hl H hk => ?_) h2
      obtain ⟨o, h4, h5⟩ := ih l hl H hk
      rw [hx] at h4; cases h4
      exact h5
    refine ⟨ox, hx, ?_⟩
    have h6 := XR.swap (KR.inv hs hT (pre ++ post)) (hs y oy h1) (hs x ox hx) hap (.inl hc) h3
    exact XR.mono (fun l hl H hk => ⟨oy, h1, hk⟩) h6
end
section
variable {P : Program} {n : Nat} {c : Cx} {Q : Exit → Act → World → Prop} {l : KL} {hl : HL} {H : View} {ops : List Oper}
theorem XR.run {o : Oper} {F : ST} {ρ : Env} {w : World} {i : Nat} {K : Act → World → Prop} (hi : ops.toArray[i]? = some o) (hd : ∀ d, o.dst = some d → Nat.blt d n = true)
    (hm : Mt n ρ l) (ho : Ok c w H hl) (h : XR P n ops.toArray o F l hl H)
    (hK : ∀ l' hl' H' ρ' w', Mt n ρ' l' → Ok c w' H' hl' → F l' hl' H' → K (fr n ρ') w') : wpOp P ops.toArray Q i K (fr n ρ) w := by
  unfold wpOp
  simp only [hi]
  rcases h with ⟨h1, h2⟩ | ⟨h1, h2⟩
  · rw [wanted_wl hm h1]
    simp only [Bool.false_eq_true, if_false]
    obtain ⟨ρ', e, hm'⟩ := fr_insl hm hd undef
    rw [e]
    exact hK _ _ _ _ _ hm' ho h2
  · rw [wanted_wl hm h1]
    simp only [if_true]
    refine .inl ?_
    rcases h2 with ⟨_, v, h3, h4⟩ | ⟨_, mk, obj, h3, h4⟩
    · refine upon_op (R := fun u w' => u = v ∧ w' = w) ?_ ?_
      · rw [h3 _ w hm.knows ho.hasL]
        exact ⟨rfl, rfl⟩
      · rintro u w' ⟨rfl, rfl⟩
        obtain ⟨ρ', e, hm'⟩ := fr_insl hm hd u
        rw [e]
        exact hK _ _ _ _ _ hm' ho h4
    · refine upon_op (R := fun u w' => u = mk w.heap.size ∧ w' = w.alloc obj) ?_ ?_
      · rw [h3 _ w hm.knows]
        exact ⟨rfl, rfl⟩
      · rintro u w' ⟨rfl, rfl⟩
        obtain ⟨ρ', e, hm'⟩ := fr_insl hm hd (mk w.heap.size)
        rw [e]
        exact hK _ _ _ _ _ hm' (ho.alloc obj) (h4 _)
theorem KR.run (hsel : selOk ops.toArray) (hedge : ∀ (i : Nat) (o : Oper), ops[i]? = some o → ∀ e ∈ o.after.toList, Region.binds .any e = true → e.on < i) (hdst : ∀ (i : Nat) (o : Oper), ops[i]? = some o → ∀ d, o.dst = some d → Nat.blt d n = true) :
    ∀ (fuel : Nat) (R : List Nat) (listed : Array Bool) (l : KL) (hl : HL) (H : View) (ρ : Env) (w : World), R.length = fuel → R.Nodup → (∀ i ∈ R, i < ops.length) → listed.size = ops.length →
      (∀ i, i < ops.length → (listed.getD i true = false ↔ i ∈ R)) → (∀ i o, i ∉ R → ops[i]? = some o → ∀ e ∈ o.after.toList, Region.binds .any e = true → e.on ∉ R) →
      (R.Pairwise fun y x => pairOk ops (masks [] ops) y x = true) → Mt n ρ l → Ok c w H hl → KR P n ops.toArray (TQ n c Q) R l hl H → wpAny P .any ops.toArray Q fuel listed (fr n ρ) w := by
  intro fuel
  induction fuel with
  | zero =>
    intro R listed l hl H ρ w hlen _ _ hsz hmem _ _ hm ho h
    have hR : R = [] := List.eq_nil_of_length_eq_zero hlen
    subst hR
    refine ⟨?_, h ρ w hm ho⟩
    cases hr : Region.ready .any ops.toArray listed with
    | nil => rfl
    | cons x xs =>
      obtain ⟨h1, h2, _⟩ := mem_ready (show x ∈ Region.ready .any ops.toArray listed by rw [hr]; simp)
      have := (hmem x (by simpa using h1)).1 h2
      cases this
  | succ fuel ih =>
    intro R listed l hl H ρ w hlen hnd hlt hsz hmem hclo hpair hm ho h
    have hRne : R ≠ [] := by intro e; subst e; simp at hlen
    refine ⟨?_, ?_⟩
    · -- something is ready: the least that is left
      intro hr
      exfalso
      have hex : ∃ i, i ∈ R := by cases R with | nil => exact absurd rfl hRne | cons a _ => exact ⟨a, by simp⟩
      have hmin : ∀ k i, i ≤ k → i ∈ R → False := by
        intro k
        induction k with
        | zero =>
          intro i hi hiR
          have hi0 : i = 0 := by omega
          subst hi0
          have hlt0 := hlt 0 hiR
          have := ready_of (md := .any) (os := ops.toArray) (listed := listed) (i := 0) (o := ops[0]) (by simpa using hlt0) ((hmem 0 hlt0).2 hiR) (by simp [hlt0])
            (fun e he hb => absurd (hedge 0 ops[0] (List.getElem?_eq_getElem hlt0) e he hb) (Nat.not_lt_zero _))
          rw [hr] at this; cases this
        | succ k ihk =>
          intro i hi hiR
          have hlti := hlt i hiR
          have := ready_of (md := .any) (os := ops.toArray) (listed := listed) (i := i) (o := ops[i]) (by simpa using hlti) ((hmem i hlti).2 hiR) (by simp [hlti])
            (fun e he hb => by
              have he' := hedge i ops[i] (List.getElem?_eq_getElem hlti) e he hb
              have hlte : e.on < ops.length := Nat.lt_trans he' hlti
              have hn : e.on ∉ R := fun hin => ihk e.on (by omega) hin
              have h2 : listed.getD e.on true = true := by
                cases hb2 : listed.getD e.on true with
                | true => rfl
                | false => exact absurd ((hmem e.on hlte).1 hb2) hn
              simpa [Array.getD, hsz, hlte] using h2)
          rw [hr] at this; cases this
      obtain ⟨i, hi⟩ := hex
      exact hmin i i (Nat.le_refl _) hi
    · intro x hx
      obtain ⟨h1, h2, o, ho', hdeps⟩ := mem_ready hx
      have hxl : x < ops.length := by simpa using h1
      have hoL : ops[x]? = some o := by simpa using ho'
      have hxR : x ∈ R := (hmem x hxl).1 h2
      obtain ⟨pre, post, rfl⟩ := List.append_of_mem hxR
      have hdeps' : ∀ e ∈ o.after.toList, Region.binds .any e = true → e.on ∉ pre ++ x :: post := by
        intro e he hb hin
        have hlte := hlt e.on hin
        have h3 := hdeps e he hb
        have h4 := (hmem e.on hlte).2 hin
        simp [Array.getD, hsz, hlte] at h3 h4
        rw [h3] at h4; cases h4
      have hbef : ∀ y ∈ pre ++ x :: post, ((masks [] ops).getD x 0).testBit y = false := by
        intro y hy
        cases hb : ((masks [] ops).getD x 0).testBit y with
        | false => rfl
        | true =>
          exact absurd hy (masks_closed (fun i => i ∉ pre ++ x :: post) (fun i o hi ho e he hb => hclo i o hi ho e he hb) x o hoL hdeps' y hb)
      have hpp := hpair
      rw [List.pairwise_append] at hpair
      obtain ⟨hp1, hp2, hp3⟩ := hpair
      rw [List.pairwise_cons] at hp2
      have hfree : ∀ y ∈ pre, ∀ oy, ops.toArray[y]? = some oy → oy.apart ops.toArray o = true ∧ (cls oy.op = 0 ∨ cls o.op = 1) := by
        intro y hy oy hoy
        have h5 := hp3 y hy x (by simp)
        simp only [pairOk, hbef y (List.mem_append_left _ hy), Bool.false_or] at h5
        have hoyL : ops[y]? = some oy := by simpa using hoy
        rw [hoyL, hoL] at h5
        simp only [Bool.and_eq_true, Bool.or_eq_true] at h5
        exact ⟨h5.1, h5.2.imp Nat.eq_of_beq_eq_true Nat.eq_of_beq_eq_true⟩
      have hnd2 := hnd
      rw [List.nodup_append, List.nodup_cons] at hnd2
      obtain ⟨nd1, ⟨nd2, nd3⟩, nd4⟩ := hnd2
      have hxpre : x ∉ pre := fun hin => nd4 x hin x (by simp) rfl
      -- the rest, whoever is done
      have rest : ∀ l' hl' H' ρ' w', Mt n ρ' l' → Ok c w' H' hl' → KR P n ops.toArray (TQ n c Q) (pre ++ post) l' hl' H' →
          wpAny P .any ops.toArray Q fuel (listed.setIfInBounds x true) (fr n ρ') w' := by
        intro l' hl' H' ρ' w' hm' ho'' hkd
        refine ih (pre ++ post) _ l' hl' H' ρ' w' ?_ ?_ ?_ (by simpa using hsz) ?_ ?_ ?_ hm' ho'' hkd
        · simp at hlen ⊢; omega
        · rw [List.nodup_append]; exact ⟨nd1, nd3, fun a ha b hb => nd4 a ha b (List.mem_cons_of_mem _ hb)⟩
        · intro i hi
          refine hlt i ?_
          rcases List.mem_append.1 hi with hi | hi
          · exact List.mem_append_left _ hi
          · exact List.mem_append_right _ (List.mem_cons_of_mem _ hi)
        · intro i hi
          by_cases hix : x = i
          · subst hix
            constructor
            · intro h7; simp [Array.getD, hsz, hi] at h7
            · intro h7; rcases List.mem_append.1 h7 with h7 | h7
              · exact absurd h7 hxpre
              · exact absurd h7 nd2
          · have h8 : (listed.setIfInBounds x true).getD i true = listed.getD i true := by
              simp [Array.getD, hsz, hi, hix]
            rw [h8, hmem i hi]
            simp [Ne.symm hix]
        · intro i oi hi hoi e he hb hin
          have hin' : e.on ∈ pre ++ x :: post := by
            rcases List.mem_append.1 hin with h9 | h9
            · exact List.mem_append_left _ h9
            · exact List.mem_append_right _ (List.mem_cons_of_mem _ h9)
          by_cases hix : i = x
          · subst hix
            rw [hoL] at hoi; cases hoi
            exact hdeps' e he hb hin'
          · refine hclo i oi ?_ hoi e he hb hin'
            intro h9
            rcases List.mem_append.1 h9 with h9 | h9
            · exact hi (List.mem_append_left _ h9)
            · rcases List.mem_cons.1 h9 with h9 | h9
              · exact hix h9
              · exact hi (List.mem_append_right _ h9)
        · rw [List.pairwise_append]
          exact ⟨hp1, hp2.2, fun a ha b hb => hp3 a ha b (List.mem_cons_of_mem _ hb)⟩
      have hd := hdst x o hoL
      by_cases hc1 : cls o.op = 1
      · -- it makes a block, or is passed over
        have hah := KR.ahead hsel ho' hc1 pre post l hl H (fun y hy oy ox h3 h4 => by rw [ho'] at h4; cases h4; exact hfree y hy oy h3) h
        have hap : ∀ y ∈ pre, ∀ oy, ops.toArray[y]? = some oy → oy.apart ops.toArray o = true := fun y hy oy hoy => (hfree y hy oy hoy).1
        rcases hah with hw | ⟨hw, mk, obj, hal⟩
        · have hk := KR.outA (v := undef) (extra := []) hsel TQ.inv ho' pre post l hl H hap
            (fun l' hl' H' F ha hx => by
              rcases hx with ⟨_, h3⟩ | ⟨h3, _⟩
              · exact h3
              · rw [← wl_agree ha, hw] at h3; cases h3) h
          refine XR.run (F := KR P n ops.toArray (TQ n c Q) (pre ++ post)) ho' hd hm ho (.inl ⟨hw, by simpa using hk⟩) ?_
          intro l' hl' H' ρ' w' hm' ho'' hf
          exact rest l' hl' H' ρ' w' hm' ho'' hf
        · have hk := fun b => KR.outA (v := mk b) (extra := [blk b obj]) hsel TQ.inv ho' pre post l hl H hap
            (fun l' hl' H' F ha hx => by
              rcases hx with ⟨h3, _⟩ | ⟨h3, h4⟩
              · rw [← wl_agree ha, hw] at h3; cases h3
              · rcases h4 with ⟨h4, _⟩ | ⟨_, mk', obj', h5, h6⟩
                · omega
                · have hal' := hal.agree (ops := ops.toArray) (hsel x o ho') ha
                  obtain ⟨rfl, rfl⟩ := hal'.det h5
                  exact h6 b) h
          refine XR.run (F := KR P n ops.toArray (TQ n c Q) (pre ++ post)) ho' hd hm ho (.inr ⟨hw, .inr ⟨hc1, mk, obj, hal, fun b => by simpa using hk b⟩⟩) ?_
          intro l' hl' H' ρ' w' hm' ho'' hf
          exact rest l' hl' H' ρ' w' hm' ho'' hf
      · have hk := KR.outC hsel TQ.inv ho' pre post l hl H (fun y hy oy hoy => ⟨(hfree y hy oy hoy).1, (hfree y hy oy hoy).2.resolve_right hc1⟩) h
        obtain ⟨o2, h3, h4⟩ := hk
        rw [ho'] at h3; cases h3
        refine XR.run ho' hd hm ho h4 ?_
        intro l' hl' H' ρ' w' hm' ho'' hf
        exact rest l' hl' H' ρ' w' hm' ho'' hf
theorem K_regionR {id : Nat} {R : List Nat} (hok : drawOk n ops false R = true) (hmix : P.follows .mixedOrders = true)
    (h : KR P n ops.toArray (TQ n c Q) R l hl H) : KC P n c (.region id ops.toArray true) Q l hl H := by
  intro ρ w hm ho
  have hd := DOk.of hok
  refine wp_region_any hmix ?_
  have hlen : R.length = ops.length := by
    have h1 : R.Perm (List.range ops.length) := by
      rw [List.perm_ext_iff_of_nodup hd.nd List.nodup_range]
      intro a
      rw [List.mem_range]
      exact ⟨hd.lt a, hd.all a⟩
    simpa using h1.length_eq
  refine KR.run (fun i o ho => hd.sel i o (by simpa using ho)) hd.edge hd.dst ops.toArray.size R _ l hl H ρ w.drew (by simpa using hlen) hd.nd hd.lt (by simp) ?_ ?_ hd.pair hm ho.drew h
  · intro i hi
    constructor
    · intro _; exact hd.all i hi
    · intro _; simp [Array.getD, hi]
  · intro i o hi hoi
    exact absurd (hd.all i (List.getElem?_eq_some_iff.1 hoi).1) hi

end
section
variable {P : Program} {n : Nat} {c : Cx} {Q : Exit → Act → World → Prop} {l : KL} {hl : HL} {H : View} {ol : List Oper} {T : ST} {R : List Nat} {i d : Nat} {op : Op} {ty : TypeId} {pos : String} {aft : Array Edge} {g : Option (Nat × Bool)} {v : Value}
theorem DR_done (h : KQ n c Q .normal l hl H) : KR P n ol.toArray (TQ n c Q) [] l hl H := h
theorem DR_val (hi : nthO ol i = some ⟨some d, op, ty, pos, aft, g⟩) (hw : wlO ol l g = some true) (hc : Nat.beq (cls op) 0 = true) (hv : ValOk P l H hl op ty v)
    (h : KR P n ol.toArray T R ((d, v) :: l) hl H) : KR P n ol.toArray T (i :: R) l hl H :=
  ⟨_, toA hi, .inr ⟨wlO_eq hw, .inl ⟨Nat.eq_of_beq_eq_true hc, v, hv, h⟩⟩⟩
theorem DR_alloc {mk : Nat → Value} {o : Obj} (hi : nthO ol i = some ⟨some d, op, ty, pos, aft, g⟩) (hw : wlO ol l g = some true) (hc : Nat.beq (cls op) 1 = true) (hv : AllocOk P l op ty mk o)
    (h : ∀ b, KR P n ol.toArray T R ((d, mk b) :: l) (blk b o :: hl) H) : KR P n ol.toArray T (i :: R) l hl H :=
  ⟨_, toA hi, .inr ⟨wlO_eq hw, .inr ⟨Nat.eq_of_beq_eq_true hc, mk, o, hv, h⟩⟩⟩
end
end Pal

/-
  Arrays of trees; the least tree of one state. Own work. No statement of the seat is proved here.
-/
namespace Pal
open Go Go.Proofs Go.Proofs.X
theorem LeastOf.one {b : BT} {s : Int} : ∀ {o : Option Tr}, LeastOf b (fun p => decide (p = s) = true) o → o = b s
  | none, h => (h s (decide_eq_true rfl)).symm
  | some t, ⟨⟨q, h1, h2⟩, _⟩ => by rw [of_decide_eq_true h1] at h2; exact h2.symm
abbrev TV := Value × Value
/-- The trees at the places of a function. -/
def TVs (H : View) (it : List TV) (f : Nat → Tr) : Prop := ∀ i (h : i < it.length), RepT H (f i) [it[i].1, it[i].2]
theorem TVs.mono {H H' : View} {it : List TV} {f : Nat → Tr} (h : TVs H it f) (hle : VLe H H') : TVs H' it f := fun i hi => (h i hi).mono hle
theorem TVs.set {H : View} {it : List TV} {f g : Nat → Tr} (h : TVs H it f) {k : Nat} {x y : Value} (hk : RepT H (g k) [x, y]) (hg : ∀ i, i ≠ k → g i = f i) : TVs H (it.set k (x, y)) g := by
  intro i hi
  rw [List.length_set] at hi
  rw [List.getElem_set]
  by_cases e : k = i
  · subst e; simpa using hk
  · simp only [if_neg e]
    rw [hg i fun h => e h.symm]
    exact h i hi
theorem TVs.congr {H : View} {it : List TV} {f g : Nat → Tr} (h : TVs H it f) (hg : ∀ i, i < it.length → g i = f i) : TVs H it g := fun i hi => by rw [hg i hi]; exact h i hi
theorem TVs.made (H : View) (n : Nat) (f : Nat → Tr) (hf : ∀ i, f i = .node 0 []) : TVs H (List.replicate n (.int .i64 0, .slice none 0 0)) f := by
  intro i hi
  rw [hf, List.getElem_replicate]
  exact repT_leaf H 0 (by simp [i64ok])
section rules
variable {P : Program} {n : Nat} {c : Cx} {l : KL} {hl : HL} {H : View} {v : Value} {ty : TypeId} {pos : String} {aft : Array Edge} {g : Option (Nat × Bool)} {ol : List Oper} {keep : HL} {fin : Bool} {T : ST} {R : List Nat} {i : Nat}
theorem D_storeE {t : TypeId} {x y : Operand} {agg : Bool} {sz b off : Nat} {cs cs' : Array Value} {E : TypeId} (hT : Ty P t agg sz) (j : Nat) (hi : nthO ol i = some ⟨none, .store t x y, ty, pos, aft, g⟩) (hw : wlO ol l g = some true)
    (hx : ev l x = some (.pointer (some ⟨b, off, none⟩))) (hy : ev l y = some v) (hj : hl[j]? = some (blk b (.cells cs E (0, 0)))) (hkp : memAll keep (hl.eraseIdx j)) (hsz : v.cells.toList.length = sz) (hfit : off + v.cells.toList.length ≤ cs.size) (h1 : v.cells.toList.all Value.oneCell' = true)
    (he : putCells cs off v.cells.toList = cs') (h : KD P n ol.toArray keep fin T R l (blk b (.cells cs' E (0, 0)) :: hl.eraseIdx j) H) : KD P n ol.toArray keep fin T (i :: R) l hl H := by
  subst he; exact D_store hT j hi hw hx hy hj hkp hsz (Nat.ble_eq.mpr hfit) h1 h
end rules
theorem map_take {f : Int → Tr} {qs : List Int} {i : Nat} (hi : i < qs.length) : (qs.take (i + 1)).map f = (qs.take i).map f ++ [f qs[i]] := by
  rw [List.take_succ_eq_append_getElem hi, List.map_append]; rfl
theorem LeastOf.size {rs : List Rl} {b : BT} (hI : InvB rs b) {F : Int → Prop} : ∀ {o : Option Tr}, LeastOf b F o → (o.getD (.node 0 [])).size ≤ 4096
  | none, _ => by decide
  | some t, ⟨⟨q, _, h⟩, _⟩ => (hI q t h).2
end Pal

/-
  Finiteness: states without predecessors are taken away; a rank of states. Own work. No statement of the seat is proved here.
-/
namespace Pal
open Go Go.Proofs Go.Proofs.X
def ledG (rs : List Rl) (m : List Bool) (s : Int) : Bool := rs.any fun r => decide (r.to = s) && r.args.any fun q => !onL m q
def goneS (rs : List Rl) (m : List Bool) (s : Nat) : List Bool := m.set s (onL m (s : Int) || !ledG rs m (s : Int))
def gAt (rs : List Rl) (m : List Bool) (k : Nat) : List Bool := (List.range k).foldl (goneS rs) m
def gN (rs : List Rl) (n : Nat) : Nat → List Bool
  | 0 => noneL n
  | k + 1 => gAt rs (gN rs n k) n
def finM (a : Au) : Bool := !decide (false ∈ gN a.rules a.states.toNat a.states.toNat)
theorem gAt_succ (rs : List Rl) (m : List Bool) (k : Nat) : gAt rs m (k + 1) = goneS rs (gAt rs m k) k := by unfold gAt; rw [List.range_succ, List.foldl_append]; rfl
theorem gAt_len (rs : List Rl) (m : List Bool) : ∀ k, (gAt rs m k).length = m.length
  | 0 => rfl
  | k + 1 => by rw [gAt_succ, goneS, List.length_set, gAt_len rs m k]
theorem gN_len (rs : List Rl) (n : Nat) : ∀ k, (gN rs n k).length = n
  | 0 => List.length_replicate ..
  | k + 1 => by rw [gN, gAt_len, gN_len rs n k]
theorem onL_set {m : List Bool} {s : Nat} (hs : s < m.length) (v : Bool) (q : Int) : onL (m.set s v) q = if q.toNat = s then v else onL m q := by
  unfold onL
  rw [List.getD_eq_getElem?_getD, List.getElem?_set]
  by_cases e : s = q.toNat
  · rw [if_pos e, if_pos e.symm, if_pos (by omega)]; rfl
  · rw [if_neg e, if_neg (fun h => e h.symm), List.getD_eq_getElem?_getD]
def Acyc (rs : List Rl) : Prop := ∃ rank : Nat → Nat, ∀ r ∈ rs, ∀ q ∈ r.args, rank q.toNat < rank r.to.toNat
def GInv (rs : List Rl) (m : List Bool) : Prop := ∃ rank : Nat → Nat, ∀ r ∈ rs, onL m r.to = true → ∀ q ∈ r.args, onL m q = true ∧ rank q.toNat < rank r.to.toNat
theorem ledG_no {rs : List Rl} {m : List Bool} {s : Int} (h : ledG rs m s = false) {r : Rl} (hr : r ∈ rs) (ht : r.to = s) {q : Int} (hq : q ∈ r.args) : onL m q = true := by
  cases ho : onL m q with
  | true => rfl
  | false =>
    have : ledG rs m s = true := List.any_eq_true.2 ⟨r, hr, by rw [decide_eq_true ht, Bool.true_and]; exact List.any_eq_true.2 ⟨q, hq, by rw [ho]; rfl⟩⟩
    rw [h] at this; cases this
theorem rank_bound (rs : List Rl) (rank : Nat → Nat) : ∃ B, ∀ r ∈ rs, ∀ q ∈ r.args, rank q.toNat < B := by
  refine ⟨((rs.flatMap fun r => r.args).map fun q => rank q.toNat).sum + 1, fun r hr q hq => ?_⟩
  have hm : q ∈ rs.flatMap fun r => r.args := List.mem_flatMap.2 ⟨r, hr, hq⟩
  have key : ∀ (l : List Int), q ∈ l → rank q.toNat ≤ (l.map fun q => rank q.toNat).sum := by
    intro l
    induction l with
    | nil => intro h; cases h
    | cons x l ih =>
      intro h
      rw [List.map_cons, List.sum_cons]
      rcases List.mem_cons.1 h with rfl | h
      · omega
      · have := ih h; omega
  have := key _ hm
  omega
theorem GInv.step {rs : List Rl} {m : List Bool} (h : GInv rs m) (hto : ∀ r ∈ rs, 0 ≤ r.to) {s : Nat} (hs : s < m.length) : GInv rs (goneS rs m s) := by
  obtain ⟨rank, hk⟩ := h
  by_cases hold : onL m (s : Int) = true ∨ ledG rs m (s : Int) = true
  · have he : ∀ q, onL (goneS rs m s) q = onL m q := fun q => by
      unfold goneS
      rw [onL_set hs]
      split
      · rename_i e
        have e2 : onL m q = onL m (s : Int) := by unfold onL; rw [e]; simp
        rw [e2]
        rcases hold with h1 | h1
        · rw [h1]; rfl
        · rw [h1]; simp
      · rfl
    refine ⟨rank, fun r hr ho q hq => ?_⟩
    rw [he] at ho ⊢
    exact hk r hr ho q hq
  · obtain ⟨h1, h2⟩ := not_or.1 hold
    have h1 : onL m (s : Int) = false := by simpa using h1
    have h2 : ledG rs m (s : Int) = false := by simpa using h2
    obtain ⟨B, hB⟩ := rank_bound rs rank
    have he : ∀ q, onL (goneS rs m s) q = if q.toNat = s then true else onL m q := fun q => by
      unfold goneS
      rw [onL_set hs, h2]; simp
    have hns : ∀ q : Int, onL m q = true → q.toNat ≠ s := fun q hq e => by
      have e2 : onL m q = onL m (s : Int) := by unfold onL; rw [e]; simp
      rw [e2, h1] at hq; cases hq
    refine ⟨fun x => if x = s then B else rank x, fun r hr ho q hq => ?_⟩
    rw [he] at ho
    have hon : onL m q = true := by
      by_cases e : r.to.toNat = s
      · exact ledG_no h2 hr (by have := hto r hr; omega) hq
      · rw [if_neg e] at ho; exact (hk r hr ho q hq).1
    have hq' := hns q hon
    rw [he, if_neg hq']
    refine ⟨hon, ?_⟩
    dsimp only
    rw [if_neg hq']
    by_cases e : r.to.toNat = s
    · rw [if_pos e]; exact hB r hr q hq
    · rw [if_neg e]
      rw [if_neg e] at ho
      exact (hk r hr ho q hq).2
theorem GInv.at {rs : List Rl} (hto : ∀ r ∈ rs, 0 ≤ r.to) {m : List Bool} (h : GInv rs m) : ∀ k, k ≤ m.length → GInv rs (gAt rs m k)
  | 0, _ => h
  | k + 1, hk => by
    rw [gAt_succ]
    exact (GInv.at hto h k (by omega)).step hto (by rw [gAt_len]; omega)
theorem GInv.n {rs : List Rl} (hto : ∀ r ∈ rs, 0 ≤ r.to) (n : Nat) : ∀ k, GInv rs (gN rs n k)
  | 0 => ⟨fun _ => 0, fun r _ h => by
    have : onL (noneL n) r.to = false := by
      unfold onL noneL
      rw [List.getD_eq_getElem?_getD, List.getElem?_replicate]
      split <;> rfl
    rw [gN, this] at h; cases h⟩
  | k + 1 => by
    rw [gN]
    exact GInv.at hto (GInv.n hto n k) n (by rw [gN_len]; exact Nat.le_refl _)
end Pal

/-
  Cycles between states: the pairs that lead to one another, closed state by state. Own work. No statement of the seat is proved here.
-/
namespace Pal
open Go Go.Proofs Go.Proofs.X
theorem Acyc.congr {rs ts : List Rl} (h : ∀ r, r ∈ rs → r ∈ ts) (ha : Acyc ts) : Acyc rs := by
  obtain ⟨rank, hk⟩ := ha
  exact ⟨rank, fun r hr => hk r (h r hr)⟩
end Pal

/-
  The values of the small automata that the laws of chapter 36 run on at their start. Own work. No statement of the seat is proved here.
-/
namespace Pal
open Go Go.Proofs Go.Proofs.X
theorem leaf_le {rk : List Int} : ∀ {t : Tr}, Tr.nodesErr rk t = 0 → Tr.cmp (.node 0 []) t ≤ 0
  | .node s ts, h => by
    rw [Tr.nodesErr] at h
    have hs : 0 ≤ s := by
      by_cases e : s < 0 ∨ (rk.length : Int) ≤ s
      · rw [if_pos e] at h; cases h
      · omega
    rw [cmp_key]
    have e0 : Tr.key (.node 0 []) = [1, 0, 0] := rfl
    rw [e0, Tr.key, cmpL_cons, cmpL_cons, cmpL_cons]
    have hsz : (Tr.node s ts).size = 1 + Tr.sizes ts := rfl
    have hl := Tr.length_le_sizes ts
    unfold cmpI
    by_cases h1 : Tr.sizes ts = 0
    · have h2 : ts = [] := List.eq_nil_of_length_eq_zero (by omega)
      subst h2
      rw [hsz, h1]
      by_cases h3 : s = 0
      · subst h3; decide
      · rw [if_neg (by simp), if_pos (by rw [if_pos (by omega)]; decide), if_pos (by omega)]; decide
    · rw [if_pos (by rw [if_pos (by omega)]; decide), if_pos (by omega)]; decide
theorem known_okA : auErr knownA = 0 := by decide +kernel
theorem known_leaf {b : BT} {o : Option Tr} (hB : Best knownA.rules b) (hO : LeastOf b (fun q => q ∈ knownA.final) o) : o = some (.node 0 []) := by
  have hok := AuOk.of known_okA
  obtain ⟨w, hw, hle⟩ := best_le hok (by decide) hB (.node 0 []) 1 (by decide +kernel)
  have hv := (hB.inv 1 w hw).1.valid hok (fun r hr => hr)
  have he : w = .node 0 [] := Tr.cmp_eq (by
    have h1 := leaf_le hv
    rw [Tr.cmp_swap] at h1
    omega)
  subst he
  cases o with
  | none => rw [hO 1 (by decide)] at hw; cases hw
  | some t =>
    obtain ⟨⟨q, h1, h2⟩, _⟩ := hO
    have hq : q = 1 := by simpa [knownA] using h1
    subst hq
    rw [hw] at h2; exact h2.symm
theorem known_fin : finM (normA (trimA knownA)) = false := by decide +kernel
end Pal

/-
  DERIVED: THE SHELF's CONTRACTS AT THIS DUMP, IN PLAIN WORDS (tools/lay-plain.mjs out of 'LayECs.lean', which tools/lay-shelf.mjs wrote): THE SAME DECLARATIONS UNDER THE SAME NAMES: 'import', 'namespace', 'open', 'def', 'theorem' AND NOTHING ELSE: no command of the shelf's: FOR A HAND-IN. Each laying: the table of numbers ('.._ren') and one theorem, a field a fact of the dump's own or the kernel's comparison; each contract: ONE APPLICATION.
-/
namespace Go.Proofs
open Go.Shelf
def Tryz.layR_ren : Go.Shelf.Ren := ⟨fun | 6 => 104 | 15 => 122 | 14 => 121 | 28 => 135 | 29 => 113 | 20 => 127 | 21 => 128 | 22 => 129 | 23 => 130 | 24 => 131 | 25 => 132 | 26 => 133 | 27 => 134 | 46 => 145 | 47 => 146 | 48 => 147 | 49 => 148 | 50 => 149 | 57 => 153 | n => n, fun | 22 => 46 | 24 => 85 | 25 => 159 | 3 => 3 | 39 => 104 | 0 => 0 | 53 => 102 | 55 => 66 | 4 => 4 | 46 => 180 | 45 => 179 | 50 => 184 | 5 => 5 | 9 => 9 | 66 => 194 | 70 => 198 | 76 => 202 | 77 => 203 | n => n, fun | n => n⟩
theorem Tryz.layR : Go.Proofs.SlLaysF0.n6 Tryz.prog Tryz.layR_ren := {
  mixed := by kernel_rfl
  f6 := ⟨Tryz.f104.name, by decide, Tryz.func104.trans (congrArg some (by kernel_rfl))⟩
  f14 := ⟨Tryz.f121.name, by decide, Tryz.func121.trans (congrArg some (by kernel_rfl))⟩
  f15 := Tryz.func122.trans (congrArg some (by kernel_rfl))
  f20 := ⟨Tryz.f127.name, by decide, Tryz.func127.trans (congrArg some (by kernel_rfl))⟩
  f21 := ⟨Tryz.f128.name, by decide, Tryz.func128.trans (congrArg some (by kernel_rfl))⟩
  f22 := ⟨Tryz.f129.name, by decide, Tryz.func129.trans (congrArg some (by kernel_rfl))⟩
  f23 := ⟨Tryz.f130.name, by decide, Tryz.func130.trans (congrArg some (by kernel_rfl))⟩
  f24 := ⟨Tryz.f131.name, by decide, Tryz.func131.trans (congrArg some (by kernel_rfl))⟩
  f25 := ⟨Tryz.f132.name, by decide, Tryz.func132.trans (congrArg some (by kernel_rfl))⟩
  f26 := ⟨Tryz.f133.name, by decide, Tryz.func133.trans (congrArg some (by kernel_rfl))⟩
  f27 := ⟨Tryz.f134.name, by decide, Tryz.func134.trans (congrArg some (by kernel_rfl))⟩
  f28 := Tryz.func135.trans (congrArg some (by kernel_rfl))
  f29 := Tryz.func113.trans (congrArg some (by kernel_rfl))
  f46 := ⟨Tryz.f145.name, by decide, Tryz.func145.trans (congrArg some (by kernel_rfl))⟩
  f47 := Tryz.func146.trans (congrArg some (by kernel_rfl))
  f48 := Tryz.func147.trans (congrArg some (by kernel_rfl))
  f49 := ⟨Tryz.f148.name, by decide, Tryz.func148.trans (congrArg some (by kernel_rfl))⟩
  f50 := ⟨Tryz.f149.name, by decide, Tryz.func149.trans (congrArg some (by kernel_rfl))⟩
  f57 := ⟨Tryz.f153.name, by decide, Tryz.func153.trans (congrArg some (by kernel_rfl))⟩
  t0 := Tryz.underlying0
  a0 := Tryz.isAgg0
  z0 := Tryz.sizeOf0
  v0 := Tryz.zeroValue0
  t3 := Tryz.underlying3
  a3 := Tryz.isAgg3
  z3 := Tryz.sizeOf3
  v3 := Tryz.zeroValue3
  t4 := Tryz.underlying4
  a4 := Tryz.isAgg4
  z4 := Tryz.sizeOf4
  v4 := Tryz.zeroValue4
  t5 := Tryz.underlying5
  a5 := Tryz.isAgg5
  z5 := Tryz.sizeOf5
  v5 := Tryz.zeroValue5
  t9 := Tryz.underlying9
  a9 := Tryz.isAgg9
  z9 := Tryz.sizeOf9
  v9 := Tryz.zeroValue9
  t22 := Tryz.underlying46
  a22 := Tryz.isAgg46
  z22 := Tryz.sizeOf46
  v22 := Tryz.zeroValue46
  t25 := Tryz.underlying159
  a25 := Tryz.isAgg159
  z25 := Tryz.sizeOf159
  v25 := Tryz.zeroValue159
  t39 := Tryz.underlying104
  a39 := Tryz.isAgg104
  z39 := Tryz.sizeOf104
  v39 := Tryz.zeroValue104
  t45 := Tryz.underlying179
  a45 := Tryz.isAgg179
  z45 := Tryz.sizeOf179
  v45 := Tryz.zeroValue179
  t46 := Tryz.underlying180
  a46 := Tryz.isAgg180
  z46 := Tryz.sizeOf180
  v46 := Tryz.zeroValue180
  t50 := Tryz.underlying184
  a50 := Tryz.isAgg184
  z50 := Tryz.sizeOf184
  v50 := Tryz.zeroValue184
  t53 := Tryz.underlying102
  a53 := Tryz.isAgg102
  z53 := Tryz.sizeOf102
  v53 := Tryz.zeroValue102
  t55 := Tryz.underlying66
  a55 := Tryz.isAgg66
  z55 := Tryz.sizeOf66
  v55 := Tryz.zeroValue66
  t66 := Tryz.underlying194
  a66 := Tryz.isAgg194
  z66 := Tryz.sizeOf194
  v66 := Tryz.zeroValue194
  t70 := Tryz.underlying198
  a70 := Tryz.isAgg198
  z70 := Tryz.sizeOf198
  v70 := Tryz.zeroValue198
  t76 := Tryz.underlying202
  a76 := Tryz.isAgg202
  z76 := Tryz.sizeOf202
  v76 := Tryz.zeroValue202
  t77 := Tryz.underlying203
  a77 := Tryz.isAgg203
  z77 := Tryz.sizeOf203
  v77 := Tryz.zeroValue203 }
def Tryz.layI_ren : Go.Shelf.Ren := ⟨fun | 53 => 108 | 64 => 122 | 63 => 124 | 78 => 135 | 79 => 113 | 70 => 136 | 71 => 137 | 72 => 138 | 73 => 139 | 74 => 140 | 75 => 141 | 59 => 142 | 76 => 143 | 77 => 144 | 88 => 150 | 89 => 146 | 90 => 147 | 91 => 151 | 92 => 152 | 68 => 119 | 96 => 154 | n => n, fun | 22 => 22 | 23 => 3 | 3 => 3 | 51 => 104 | 0 => 0 | 67 => 102 | 69 => 66 | 4 => 4 | 61 => 180 | 60 => 179 | 44 => 184 | 5 => 5 | 9 => 9 | 75 => 194 | 79 => 198 | 83 => 202 | 84 => 203 | n => n, fun | n => n⟩
theorem Tryz.layI : Go.Proofs.SlLaysN.n53 Tryz.prog Tryz.layI_ren := {
  mixed := by kernel_rfl
  f53 := ⟨Tryz.f108.name, by decide, Tryz.func108.trans (congrArg some (by kernel_rfl))⟩
  f59 := ⟨Tryz.f142.name, by decide, Tryz.func142.trans (congrArg some (by kernel_rfl))⟩
  f63 := ⟨Tryz.f124.name, by decide, Tryz.func124.trans (congrArg some (by kernel_rfl))⟩
  f64 := Tryz.func122.trans (congrArg some (by kernel_rfl))
  f68 := ⟨Tryz.f119.name, by decide, Tryz.func119.trans (congrArg some (by kernel_rfl))⟩
  f70 := ⟨Tryz.f136.name, by decide, Tryz.func136.trans (congrArg some (by kernel_rfl))⟩
  f71 := ⟨Tryz.f137.name, by decide, Tryz.func137.trans (congrArg some (by kernel_rfl))⟩
  f72 := ⟨Tryz.f138.name, by decide, Tryz.func138.trans (congrArg some (by kernel_rfl))⟩
  f73 := ⟨Tryz.f139.name, by decide, Tryz.func139.trans (congrArg some (by kernel_rfl))⟩
  f74 := ⟨Tryz.f140.name, by decide, Tryz.func140.trans (congrArg some (by kernel_rfl))⟩
  f75 := ⟨Tryz.f141.name, by decide, Tryz.func141.trans (congrArg some (by kernel_rfl))⟩
  f76 := ⟨Tryz.f143.name, by decide, Tryz.func143.trans (congrArg some (by kernel_rfl))⟩
  f77 := ⟨Tryz.f144.name, by decide, Tryz.func144.trans (congrArg some (by kernel_rfl))⟩
  f78 := Tryz.func135.trans (congrArg some (by kernel_rfl))
  f79 := Tryz.func113.trans (congrArg some (by kernel_rfl))
  f88 := ⟨Tryz.f150.name, by decide, Tryz.func150.trans (congrArg some (by kernel_rfl))⟩
  f89 := Tryz.func146.trans (congrArg some (by kernel_rfl))
  f90 := Tryz.func147.trans (congrArg some (by kernel_rfl))
  f91 := ⟨Tryz.f151.name, by decide, Tryz.func151.trans (congrArg some (by kernel_rfl))⟩
  f92 := ⟨Tryz.f152.name, by decide, Tryz.func152.trans (congrArg some (by kernel_rfl))⟩
  f96 := ⟨Tryz.f154.name, by decide, Tryz.func154.trans (congrArg some (by kernel_rfl))⟩
  t0 := Tryz.underlying0
  a0 := Tryz.isAgg0
  z0 := Tryz.sizeOf0
  v0 := Tryz.zeroValue0
  t3 := Tryz.underlying3
  a3 := Tryz.isAgg3
  z3 := Tryz.sizeOf3
  v3 := Tryz.zeroValue3
  t4 := Tryz.underlying4
  a4 := Tryz.isAgg4
  z4 := Tryz.sizeOf4
  v4 := Tryz.zeroValue4
  t5 := Tryz.underlying5
  a5 := Tryz.isAgg5
  z5 := Tryz.sizeOf5
  v5 := Tryz.zeroValue5
  t9 := Tryz.underlying9
  a9 := Tryz.isAgg9
  z9 := Tryz.sizeOf9
  v9 := Tryz.zeroValue9
  t22 := Tryz.underlying22
  a22 := Tryz.isAgg22
  z22 := Tryz.sizeOf22
  v22 := Tryz.zeroValue22
  t23 := Tryz.underlying3
  a23 := Tryz.isAgg3
  z23 := Tryz.sizeOf3
  v23 := Tryz.zeroValue3
  t44 := Tryz.underlying184
  a44 := Tryz.isAgg184
  z44 := Tryz.sizeOf184
  v44 := Tryz.zeroValue184
  t51 := Tryz.underlying104
  a51 := Tryz.isAgg104
  z51 := Tryz.sizeOf104
  v51 := Tryz.zeroValue104
  t60 := Tryz.underlying179
  a60 := Tryz.isAgg179
  z60 := Tryz.sizeOf179
  v60 := Tryz.zeroValue179
  t61 := Tryz.underlying180
  a61 := Tryz.isAgg180
  z61 := Tryz.sizeOf180
  v61 := Tryz.zeroValue180
  t67 := Tryz.underlying102
  a67 := Tryz.isAgg102
  z67 := Tryz.sizeOf102
  v67 := Tryz.zeroValue102
  t69 := Tryz.underlying66
  a69 := Tryz.isAgg66
  z69 := Tryz.sizeOf66
  v69 := Tryz.zeroValue66
  t75 := Tryz.underlying194
  a75 := Tryz.isAgg194
  z75 := Tryz.sizeOf194
  v75 := Tryz.zeroValue194
  t79 := Tryz.underlying198
  a79 := Tryz.isAgg198
  z79 := Tryz.sizeOf198
  v79 := Tryz.zeroValue198
  t83 := Tryz.underlying202
  a83 := Tryz.isAgg202
  z83 := Tryz.sizeOf202
  v83 := Tryz.zeroValue202
  t84 := Tryz.underlying203
  a84 := Tryz.isAgg203
  z84 := Tryz.sizeOf203
  v84 := Tryz.zeroValue203 }
end Go.Proofs

/-
  The numbers that functions and types have in this seat, under names that are the same in every seat. Own work.
-/
namespace Go.Proofs.X
open Go Pal
abbrev F2 : FuncId := 2
abbrev F17 : FuncId := 13
abbrev F36 : FuncId := 20
abbrev F45 : FuncId := 78
abbrev F63 : FuncId := 21
abbrev F65 : FuncId := 120
abbrev F72 : FuncId := 48
abbrev F77 : FuncId := 33
abbrev F85 : FuncId := 49
abbrev F86 : FuncId := 42
abbrev F87 : FuncId := 50
abbrev F88 : FuncId := 51
abbrev F91 : FuncId := 88
abbrev F95 : FuncId := 84
abbrev F96 : FuncId := 85
abbrev F97 : FuncId := 86
abbrev F100 : FuncId := 66
abbrev F101 : FuncId := 67
abbrev F110 : FuncId := 82
abbrev F112 : FuncId := 110
abbrev F113 : FuncId := 111
abbrev F118 : FuncId := 71
abbrev F119 : FuncId := 102
abbrev F2018 : FuncId := 18
abbrev F2019 : FuncId := 19
abbrev F2029 : FuncId := 39
abbrev F2035 : FuncId := 23
abbrev F2036 : FuncId := 54
abbrev F2037 : FuncId := 103
abbrev F2039 : FuncId := 108
abbrev F2041 : FuncId := 38
abbrev F2044 : FuncId := 123
abbrev F2045 : FuncId := 80
abbrev F2046 : FuncId := 46
abbrev F2047 : FuncId := 47
abbrev F2050 : FuncId := 105
abbrev F2054 : FuncId := 73
abbrev F2055 : FuncId := 74
abbrev F2056 : FuncId := 75
abbrev F2057 : FuncId := 76
abbrev F2058 : FuncId := 77
abbrev F2059 : FuncId := 79
abbrev F2062 : FuncId := 55
abbrev F2063 : FuncId := 56
abbrev F2064 : FuncId := 57
abbrev F2068 : FuncId := 72
abbrev F2071 : FuncId := 100
abbrev F2072 : FuncId := 104
abbrev F2073 : FuncId := 106
abbrev F2074 : FuncId := 107
abbrev F2075 : FuncId := 109
abbrev F2076 : FuncId := 99
abbrev F2089 : FuncId := 119
abbrev F2110 : FuncId := 11
abbrev F2115 : FuncId := 17
abbrev F2122 : FuncId := 45
abbrev F2144 : FuncId := 3
abbrev F2145 : FuncId := 4
abbrev F2146 : FuncId := 5
abbrev F2147 : FuncId := 6
abbrev F2148 : FuncId := 7
abbrev F2149 : FuncId := 8
abbrev F2150 : FuncId := 9
abbrev F2151 : FuncId := 10
abbrev F2152 : FuncId := 12
abbrev F2153 : FuncId := 14
abbrev F2154 : FuncId := 15
abbrev F2155 : FuncId := 16
abbrev F2156 : FuncId := 22
abbrev F2157 : FuncId := 24
abbrev F2158 : FuncId := 25
abbrev F2159 : FuncId := 26
abbrev F2160 : FuncId := 27
abbrev F2161 : FuncId := 28
abbrev F2162 : FuncId := 29
abbrev F2163 : FuncId := 30
abbrev F2164 : FuncId := 31
abbrev F2165 : FuncId := 32
abbrev F2166 : FuncId := 34
abbrev F2167 : FuncId := 35
abbrev F2168 : FuncId := 36
abbrev F2169 : FuncId := 37
abbrev F2170 : FuncId := 40
abbrev F2171 : FuncId := 41
abbrev F2172 : FuncId := 43
abbrev F2173 : FuncId := 44
abbrev F2174 : FuncId := 52
abbrev F2175 : FuncId := 53
abbrev F2176 : FuncId := 58
abbrev F2177 : FuncId := 59
abbrev F2184 : FuncId := 68
abbrev F2185 : FuncId := 69
abbrev F2186 : FuncId := 70
abbrev F2187 : FuncId := 81
abbrev F2188 : FuncId := 83
abbrev F2189 : FuncId := 87
abbrev F2190 : FuncId := 89
abbrev F2191 : FuncId := 90
abbrev F2192 : FuncId := 91
abbrev F2193 : FuncId := 92
abbrev F2200 : FuncId := 101
abbrev T0 : TypeId := 0
abbrev T1 : TypeId := 1
abbrev T2 : TypeId := 2
abbrev T3 : TypeId := 3
abbrev T4 : TypeId := 4
abbrev T5 : TypeId := 5
abbrev T9 : TypeId := 9
abbrev T25 : TypeId := 22
abbrev T28 : TypeId := 55
abbrev T30 : TypeId := 57
abbrev T40 : TypeId := 52
abbrev T42 : TypeId := 54
abbrev T44 : TypeId := 24
abbrev T47 : TypeId := 35
abbrev T48 : TypeId := 46
abbrev T50 : TypeId := 48
abbrev T52 : TypeId := 23
abbrev T54 : TypeId := 37
abbrev T85 : TypeId := 85
abbrev T96 : TypeId := 66
abbrev T100 : TypeId := 51
abbrev T164 : TypeId := 102
abbrev T2007 : TypeId := 29
abbrev T2009 : TypeId := 31
abbrev T2035 : TypeId := 70
abbrev T2048 : TypeId := 98
abbrev T2129 : TypeId := 26
abbrev T2133 : TypeId := 39
abbrev T2134 : TypeId := 40
abbrev T2143 : TypeId := 69
abbrev T2145 : TypeId := 73
abbrev T2149 : TypeId := 77
abbrev T2156 : TypeId := 84
abbrev T2159 : TypeId := 88
abbrev T2161 : TypeId := 90
abbrev T2184 : TypeId := 131
abbrev T2189 : TypeId := 146
end Go.Proofs.X

namespace Go.Proofs.X
open Go Pal Go.Proofs
attribute [local irreducible] Pal.KO Pal.KC Pal.KQ Pal.KD
theorem mixed : Tryz.prog.follows .mixedOrders = true := by kernel_rfl
theorem ty5 : Ty Tryz.prog T5 false 1 := .of (by kernel_rfl)
end Go.Proofs.X
