/-
  The numbers of runs over two automata side by side are added, over their product multiplied. Plain Lean, no program. Own work.
-/
import Derived.Test.YtdclodapkhgabaaGreatPalPr
namespace Pal
open Go Go.Proofs Go.Proofs.X
/-! ### Side by side -/
mutual
theorem cnt_left {A B : List Rl} {m : Int} (hA : ∀ r ∈ A, ∀ q ∈ r.args, q < m) (hB : ∀ r ∈ B, m ≤ r.to) : ∀ (t : Tr) (q : Int), q < m → t.cnt (A ++ B) q = t.cnt A q
  | .node s ts, q, hq => by
    have hf : (B.filter fun r => decide (r.sym = s ∧ r.to = q)) = [] := List.filter_eq_nil_iff.2 fun r hr h => by
      have h1 := hB r hr
      have h2 := (of_decide_eq_true h).2
      omega
    rw [Tr.cnt, Tr.cnt, List.filter_append, hf, List.append_nil]
    exact congrArg List.sum (List.map_congr_left fun r hr => cnts_left hA hB ts r.args (hA r (List.mem_filter.1 hr).1))
theorem cnts_left {A B : List Rl} {m : Int} (hA : ∀ r ∈ A, ∀ q ∈ r.args, q < m) (hB : ∀ r ∈ B, m ≤ r.to) : ∀ (ts : List Tr) (qs : List Int), (∀ q ∈ qs, q < m) → Tr.cnts (A ++ B) ts qs = Tr.cnts A ts qs
  | [], [], _ => by simp [Tr.cnts]
  | t :: ts, q :: qs, h => by rw [Tr.cnts, Tr.cnts, cnt_left hA hB t q (h q List.mem_cons_self), cnts_left hA hB ts qs fun x hx => h x (List.mem_cons_of_mem _ hx)]
  | [], _ :: _, _ => by simp [Tr.cnts]
  | _ :: _, [], _ => by simp [Tr.cnts]
end
mutual
theorem cnt_right {A B : List Rl} {m : Int} (hA : ∀ r ∈ A, r.to < m) (hB : ∀ r ∈ B, ∀ q ∈ r.args, 0 ≤ q) : ∀ (t : Tr) (q : Int), 0 ≤ q → t.cnt (A ++ B.map (shR m)) (q + m) = t.cnt B q
  | .node s ts, q, hq => by
    have hf : (A.filter fun r => decide (r.sym = s ∧ r.to = q + m)) = [] := List.filter_eq_nil_iff.2 fun r hr h => by
      have h1 := hA r hr
      have h2 := (of_decide_eq_true h).2
      omega
    have hp : ((fun r => decide (r.sym = s ∧ r.to = q + m)) ∘ shR m) = fun r => decide (r.sym = s ∧ r.to = q) := by
      funext r
      refine decide_eq_decide.2 ?_
      show (r.sym = s ∧ r.to + m = q + m) ↔ _
      constructor
      · rintro ⟨h1, h2⟩; exact ⟨h1, by omega⟩
      · rintro ⟨h1, h2⟩; exact ⟨h1, by omega⟩
    rw [Tr.cnt, Tr.cnt, List.filter_append, hf, List.nil_append, List.filter_map, hp, List.map_map]
    exact congrArg List.sum (List.map_congr_left fun r hr => cnts_right hA hB ts r.args (hB r (List.mem_filter.1 hr).1))
theorem cnts_right {A B : List Rl} {m : Int} (hA : ∀ r ∈ A, r.to < m) (hB : ∀ r ∈ B, ∀ q ∈ r.args, 0 ≤ q) : ∀ (ts : List Tr) (qs : List Int), (∀ q ∈ qs, 0 ≤ q) → Tr.cnts (A ++ B.map (shR m)) ts (qs.map (· + m)) = Tr.cnts B ts qs
  | [], [], _ => by simp [Tr.cnts]
  | t :: ts, q :: qs, h => by rw [List.map_cons, Tr.cnts, Tr.cnts, cnt_right hA hB t q (h q List.mem_cons_self), cnts_right hA hB ts qs fun x hx => h x (List.mem_cons_of_mem _ hx)]
  | [], _ :: _, _ => by simp [Tr.cnts]
  | _ :: _, [], _ => by simp [Tr.cnts]
end
/-! ### The product -/
theorem sum_flat {α β : Type} (g : α → List β) (h : β → Nat) : ∀ A : List α, ((A.flatMap g).map h).sum = (A.map fun r => ((g r).map h).sum).sum
  | [] => rfl
  | r :: A => by rw [List.flatMap_cons, List.map_append, List.sum_append, List.map_cons, List.sum_cons, sum_flat g h A]
theorem sum_mulL {β : Type} (c : Nat) (f : β → Nat) : ∀ B : List β, (B.map fun s => c * f s).sum = c * (B.map f).sum
  | [] => by simp
  | s :: B => by rw [List.map_cons, List.map_cons, List.sum_cons, List.sum_cons, sum_mulL c f B, Nat.mul_add]
theorem sum_mulR {β : Type} (c : Nat) (f : β → Nat) : ∀ B : List β, (B.map fun s => f s * c).sum = (B.map f).sum * c
  | [] => by simp
  | s :: B => by rw [List.map_cons, List.map_cons, List.sum_cons, List.sum_cons, sum_mulR c f B, Nat.add_mul]
theorem sum_prod {α β : Type} (f : α → Nat) (g : β → Nat) (A : List α) (B : List β) : (A.map fun r => (B.map fun s => f r * g s).sum).sum = (A.map f).sum * (B.map g).sum := by
  rw [← sum_mulR (B.map g).sum f A]
  exact congrArg List.sum (List.map_congr_left fun r _ => sum_mulL (f r) g B)
theorem pair_inj {n x y u v : Int} (hy : 0 ≤ y ∧ y < n) (hv : 0 ≤ v ∧ v < n) (h : x * n + y = u * n + v) : x = u ∧ y = v := by
  have key : ∀ {x y u v : Int}, 0 ≤ y ∧ y < n → 0 ≤ v ∧ v < n → x * n + y = u * n + v → ¬ x < u := fun {x y u v} hy hv h hlt => by
    have h1 : (x + 1) * n ≤ u * n := Int.mul_le_mul_of_nonneg_right (by omega) (by omega)
    rw [Int.add_mul, Int.one_mul] at h1
    omega
  have h1 := key hy hv h
  have h2 := key hv hy h.symm
  have hxu : x = u := by omega
  subst hxu
  exact ⟨rfl, by omega⟩
mutual
theorem cnt_by {A B : List Rl} {n : Int} (hB : ∀ r ∈ B, (0 ≤ r.to ∧ r.to < n) ∧ ∀ q ∈ r.args, 0 ≤ q ∧ q < n) (hl : ∀ r ∈ A, ∀ s ∈ B, s.sym = r.sym → r.args.length = s.args.length) : ∀ (t : Tr) (x y : Int), 0 ≤ y ∧ y < n → t.cnt (prods n A B) (x * n + y) = t.cnt A x * t.cnt B y
  | .node c ts, x, y, hy => by
    rw [Tr.cnt, Tr.cnt, Tr.cnt, sum_filter, sum_filter A, sum_filter B]
    rw [← sum_prod, prods, sum_flat]
    refine congrArg List.sum (List.map_congr_left fun r hr => ?_)
    rw [List.map_map, symR, sum_filter]
    refine congrArg List.sum (List.map_congr_left fun s hs => ?_)
    have hs2 := hB s hs
    simp only [Function.comp, decide_eq_true_eq]
    by_cases h1 : s.sym = r.sym
    · rw [if_pos h1]
      by_cases h2 : r.sym = c ∧ r.to = x
      · by_cases h3 : s.to = y
        · rw [if_pos (show (prR n r s).sym = c ∧ (prR n r s).to = x * n + y from ⟨h2.1, by show r.to * n + s.to = _; rw [h2.2, h3]⟩), if_pos h2, if_pos ⟨h1.trans h2.1, h3⟩]
          exact cnts_by hB hl ts r.args s.args (hl r hr s hs h1) hs2.2
        · rw [if_neg (fun h => h3 (pair_inj hs2.1 hy h.2).2), if_neg (fun h : s.sym = c ∧ s.to = y => h3 h.2), Nat.mul_zero]
      · rw [if_neg (fun h => h2 ⟨h.1, (pair_inj hs2.1 hy h.2).1⟩), if_neg h2, Nat.zero_mul]
    · rw [if_neg h1]
      by_cases h2 : r.sym = c ∧ r.to = x
      · rw [if_neg (fun h : s.sym = c ∧ s.to = y => h1 (h.1.trans h2.1.symm)), Nat.mul_zero]
      · rw [if_neg h2, Nat.zero_mul]
theorem cnts_by {A B : List Rl} {n : Int} (hB : ∀ r ∈ B, (0 ≤ r.to ∧ r.to < n) ∧ ∀ q ∈ r.args, 0 ≤ q ∧ q < n) (hl : ∀ r ∈ A, ∀ s ∈ B, s.sym = r.sym → r.args.length = s.args.length) : ∀ (ts : List Tr) (xs ys : List Int), xs.length = ys.length → (∀ q ∈ ys, 0 ≤ q ∧ q < n) → Tr.cnts (prods n A B) ts (prArgs n xs ys) = Tr.cnts A ts xs * Tr.cnts B ts ys
  | [], [], [], _, _ => by simp [Tr.cnts, prArgs]
  | t :: ts, x :: xs, y :: ys, h, hy => by
    show Tr.cnts (prods n A B) (t :: ts) ((x * n + y) :: prArgs n xs ys) = _
    rw [Tr.cnts, Tr.cnts, Tr.cnts, cnt_by hB hl t x y (hy y List.mem_cons_self), cnts_by hB hl ts xs ys (by simpa using h) fun q hq => hy q (List.mem_cons_of_mem _ hq)]
    exact Nat.mul_mul_mul_comm _ _ _ _
  | [], x :: xs, y :: ys, _, _ => by simp [Tr.cnts, prArgs]
  | t :: ts, [], [], _, _ => by simp [Tr.cnts, prArgs]
  | _, [], _ :: _, h, _ => by simp at h
  | _, _ :: _, [], h, _ => by simp at h
end
/-! ### The automata -/
/-- The number of accepting runs. -/
def numA (a : Au) (t : Tr) : Nat := cntA a t (sortI a.final)
theorem perm_mem {α : Type} [DecidableEq α] {xs ys : List α} (h1 : xs.Nodup) (h2 : ys.Nodup) (h : ∀ x, x ∈ xs ↔ x ∈ ys) : xs.Perm ys := (List.perm_ext_iff_of_nodup h1 h2).2 h
theorem sortO_nodup (rs : List Rl) : (sortO rs).Nodup := rise_nodup (sortO_rise rs)
theorem numA_norm (a : Au) (t : Tr) : numA (normA a) t = numA a t := by
  unfold numA cntA normA
  dsimp only
  rw [sortO_idem, sortI_idem]
theorem shR_inj {m : Int} {r s : Rl} (h : shR m r = shR m s) : r = s := by
  have h1 : (shR m r).sym = (shR m s).sym := congrArg Rl.sym h
  have h1 : r.sym = s.sym := h1
  have h2 : (shR m r).args = (shR m s).args := congrArg Rl.args h
  have h2 : r.args.map (· + m) = s.args.map (· + m) := h2
  have h3 : (shR m r).to = (shR m s).to := congrArg Rl.to h
  have h3 : r.to + m = s.to + m := h3
  have h4 : r.args = s.args := List.map_inj_right (fun x y (e : x + m = y + m) => by omega) |>.1 h2
  cases r; cases s
  simp only [Rl.mk.injEq] at *
  exact ⟨h1, h4, by omega⟩
theorem nodup_map {α β : Type} {f : α → β} (hf : ∀ x y, f x = f y → x = y) {l : List α} (h : l.Nodup) : (l.map f).Nodup := by
  rw [List.Nodup, List.pairwise_map]
  exact h.imp fun {x y} hxy e => hxy (hf x y e)
theorem uni_perm {a b : Au} (ha : AuOk a) (hb : AuOk b) : (sortO (a.rules ++ b.rules.map (shR a.states))).Perm (sortO a.rules ++ (sortO b.rules).map (shR a.states)) := by
  refine perm_mem (sortO_nodup _) (List.nodup_append.2 ⟨sortO_nodup _, nodup_map (fun x y => shR_inj) (sortO_nodup _), fun x hx y hy e => ?_⟩) fun x => by simp only [sortO_mem, List.mem_append, List.mem_map]
  subst e
  obtain ⟨z, hz, rfl⟩ := List.mem_map.1 hy
  obtain ⟨_, _, _, _, _, k6⟩ := ha.ru _ (sortO_mem.1 hx)
  obtain ⟨_, _, _, _, l5, _⟩ := hb.ru z (sortO_mem.1 hz)
  have h2 : z.to + a.states < a.states := k6
  omega
theorem uni_fperm {a b : Au} (ha : AuOk a) (hb : AuOk b) : (sortI (a.final ++ b.final.map (· + a.states))).Perm (sortI a.final ++ (sortI b.final).map (· + a.states)) := by
  refine perm_mem (sortI_nodup _) (List.nodup_append.2 ⟨sortI_nodup _, nodup_map (fun x y (e : x + a.states = y + a.states) => by omega) (sortI_nodup _), fun x hx y hy e => ?_⟩) fun x => by simp only [sortI_mem, List.mem_append, List.mem_map]
  subst e
  obtain ⟨z, hz, rfl⟩ := List.mem_map.1 hy
  have h1 := ha.fi _ (sortI_mem.1 hx)
  have h2 := hb.fi z (sortI_mem.1 hz)
  omega
theorem num_uni {a b : Au} (ha : AuOk a) (hb : AuOk b) (t : Tr) : numA (uniA a b) t = numA a t + numA b t := by
  unfold numA cntA uniA
  dsimp only
  rw [((uni_fperm ha hb).map _).sum_nat, List.map_append, List.sum_append, List.map_map]
  congr 1
  · refine congrArg List.sum (List.map_congr_left fun q hq => ?_)
    rw [Tr.cnt_perm (uni_perm ha hb)]
    refine cnt_left (m := a.states) (fun r hr x hx => ((ha.ru r (sortO_mem.1 hr)).2.2.2.1 x hx).2) (fun r hr => ?_) t q (ha.fi q (sortI_mem.1 hq)).2
    obtain ⟨z, hz, rfl⟩ := List.mem_map.1 hr
    have := (hb.ru z (sortO_mem.1 hz)).2.2.2.2.1
    show a.states ≤ z.to + a.states
    omega
  · refine congrArg List.sum (List.map_congr_left fun q hq => ?_)
    show t.cnt _ (q + a.states) = _
    rw [Tr.cnt_perm (uni_perm ha hb)]
    exact cnt_right (fun r hr => (ha.ru r (sortO_mem.1 hr)).2.2.2.2.2) (fun r hr x hx => ((hb.ru r (sortO_mem.1 hr)).2.2.2.1 x hx).1) t q (hb.fi q (sortI_mem.1 hq)).1
theorem nodup_flat {α β : Type} {g : α → List β} : ∀ {A : List α}, A.Nodup → (∀ x ∈ A, (g x).Nodup) → (∀ x ∈ A, ∀ y ∈ A, ∀ z, z ∈ g x → z ∈ g y → x = y) → (A.flatMap g).Nodup
  | [], _, _, _ => List.nodup_nil
  | a :: A, h, h1, h2 => by
    obtain ⟨h3, h4⟩ := List.nodup_cons.1 h
    rw [List.flatMap_cons]
    refine List.nodup_append.2 ⟨h1 a List.mem_cons_self, nodup_flat h4 (fun x hx => h1 x (List.mem_cons_of_mem _ hx)) (fun x hx y hy => h2 x (List.mem_cons_of_mem _ hx) y (List.mem_cons_of_mem _ hy)), fun x hx y hy e => ?_⟩
    subst e
    obtain ⟨z, hz, hz2⟩ := List.mem_flatMap.1 hy
    exact h3 (h2 a List.mem_cons_self z (List.mem_cons_of_mem _ hz) x hx hz2 ▸ hz)
theorem nodup_mapOn {α β : Type} {f : α → β} {l : List α} (hf : ∀ x ∈ l, ∀ y ∈ l, f x = f y → x = y) (h : l.Nodup) : (l.map f).Nodup := by
  rw [List.Nodup, List.pairwise_map]
  exact List.Pairwise.imp_of_mem (fun {x y} hx hy hxy e => hxy (hf x hx y hy e)) h
theorem prArgs_inj {n : Int} : ∀ {xs ys us vs : List Int}, xs.length = ys.length → us.length = vs.length → (∀ y ∈ ys, 0 ≤ y ∧ y < n) → (∀ y ∈ vs, 0 ≤ y ∧ y < n) → prArgs n xs ys = prArgs n us vs → xs = us ∧ ys = vs
  | [], [], [], [], _, _, _, _, _ => ⟨rfl, rfl⟩
  | x :: xs, y :: ys, u :: us, v :: vs, h1, h2, h3, h4, h => by
    have h' : (x * n + y) :: prArgs n xs ys = (u * n + v) :: prArgs n us vs := h
    obtain ⟨e1, e2⟩ := List.cons.inj h'
    obtain ⟨rfl, rfl⟩ := pair_inj (h3 y List.mem_cons_self) (h4 v List.mem_cons_self) e1
    obtain ⟨rfl, rfl⟩ := prArgs_inj (by simpa using h1) (by simpa using h2) (fun z hz => h3 z (List.mem_cons_of_mem _ hz)) (fun z hz => h4 z (List.mem_cons_of_mem _ hz)) e2
    exact ⟨rfl, rfl⟩
  | [], [], u :: us, v :: vs, _, _, _, _, h => by simp [prArgs] at h
  | x :: xs, y :: ys, [], [], _, _, _, _, h => by simp [prArgs] at h
  | [], _ :: _, _, _, h, _, _, _, _ => by simp at h
  | _ :: _, [], _, _, h, _, _, _, _ => by simp at h
  | _, _, [], _ :: _, _, h, _, _, _ => by simp at h
  | _, _, _ :: _, [], _, h, _, _, _ => by simp at h
theorem int_perm {a b : Au} (ha : AuOk a) (hb : AuOk b) (hr : a.ranks = b.ranks) : (sortO (prods b.states a.rules b.rules)).Perm (prods b.states (sortO a.rules) (sortO b.rules)) := by
  have hbb : ∀ s ∈ sortO b.rules, (0 ≤ s.to ∧ s.to < b.states) ∧ ∀ q ∈ s.args, 0 ≤ q ∧ q < b.states := fun s hs => by
    obtain ⟨l1, l2, l3, l4, l5, l6⟩ := hb.ru s (sortO_mem.1 hs)
    exact ⟨⟨l5, l6⟩, l4⟩
  have key : ∀ r ∈ sortO a.rules, ∀ r' ∈ sortO a.rules, ∀ s ∈ symR (sortO b.rules) r.sym, ∀ s' ∈ symR (sortO b.rules) r'.sym, prR b.states r s = prR b.states r' s' → r = r' ∧ s = s' := fun r h1 r' h2 s h3 s' h4 e => by
    obtain ⟨h3, e3⟩ := symR_mem.1 h3
    obtain ⟨h4, e4⟩ := symR_mem.1 h4
    have k1 : (prR b.states r s).sym = (prR b.states r' s').sym := congrArg Rl.sym e
    have k1 : r.sym = r'.sym := k1
    have k2 : (prR b.states r s).args = (prR b.states r' s').args := congrArg Rl.args e
    have k2 : prArgs b.states r.args s.args = prArgs b.states r'.args s'.args := k2
    have k3 : (prR b.states r s).to = (prR b.states r' s').to := congrArg Rl.to e
    have k3 : r.to * b.states + s.to = r'.to * b.states + s'.to := k3
    obtain ⟨j1, j2⟩ := prArgs_inj (sameRank ha hb hr (sortO_mem.1 h1) (sortO_mem.1 h3) e3) (sameRank ha hb hr (sortO_mem.1 h2) (sortO_mem.1 h4) e4) (hbb s h3).2 (hbb s' h4).2 k2
    obtain ⟨j3, j4⟩ := pair_inj (hbb s h3).1 (hbb s' h4).1 k3
    have k5 : s.sym = s'.sym := by rw [e3, e4, k1]
    cases r; cases r'; cases s; cases s'
    simp only [Rl.mk.injEq] at *
    exact ⟨⟨k1, j1, j3⟩, k5, j2, j4⟩
  refine perm_mem (sortO_nodup _) (nodup_flat (sortO_nodup _) (fun r h1 => nodup_mapOn (fun s h3 s' h4 e => (key r h1 r h1 s h3 s' h4 e).2) ((sortO_nodup _).filter _)) fun r h1 r' h2 z h3 h4 => ?_) fun x => by simp only [sortO_mem, prods_mem]
  obtain ⟨s, hs, rfl⟩ := List.mem_map.1 h3
  obtain ⟨s', hs', e⟩ := List.mem_map.1 h4
  exact (key r h1 r' h2 s hs s' hs' e.symm).1
theorem int_fperm {a b : Au} (hb : AuOk b) : (sortI (finP b.states a.final b.final)).Perm (finP b.states (sortI a.final) (sortI b.final)) := by
  have hbb : ∀ s ∈ sortI b.final, 0 ≤ s ∧ s < b.states := fun s hs => hb.fi s (sortI_mem.1 hs)
  refine perm_mem (sortI_nodup _) (nodup_flat (sortI_nodup _) (fun r h1 => nodup_mapOn (fun s h3 s' h4 e => (pair_inj (hbb s h3) (hbb s' h4) e).2) (sortI_nodup _)) fun r h1 r' h2 z h3 h4 => ?_) fun x => by simp only [sortI_mem, finP_mem]
  obtain ⟨s, hs, rfl⟩ := List.mem_map.1 h3
  obtain ⟨s', hs', e⟩ := List.mem_map.1 h4
  exact (pair_inj (hbb s' hs') (hbb s hs) e).1.symm
theorem num_int {a b : Au} (ha : AuOk a) (hb : AuOk b) (hr : a.ranks = b.ranks) (t : Tr) : numA (intA a b) t = numA a t * numA b t := by
  unfold numA cntA intA
  dsimp only
  rw [((int_fperm (a := a) hb).map _).sum_nat, ← sum_prod, finP, sum_flat]
  refine congrArg List.sum (List.map_congr_left fun x hx => ?_)
  rw [List.map_map]
  refine congrArg List.sum (List.map_congr_left fun y hy => ?_)
  show t.cnt _ (x * b.states + y) = _
  rw [Tr.cnt_perm (int_perm ha hb hr)]
  exact cnt_by (fun s hs => by
    obtain ⟨l1, l2, l3, l4, l5, l6⟩ := hb.ru s (sortO_mem.1 hs)
    exact ⟨⟨l5, l6⟩, l4⟩) (fun r h1 s h2 e => sameRank ha hb hr (sortO_mem.1 h1) (sortO_mem.1 h2) e) t x y (hb.fi y (sortI_mem.1 hy))
/-! ### What is accepted -/
theorem acc_num {a : Au} {t : Tr} (h : askErr a t = 0) : accA a t = decide (0 < numA a t) := bool_iff (by
  rw [accA_iff, decide_eq_true_eq, numA, cntA, sum_pos_iff]
  simp only [cnt_sortO, sortI_mem]
  exact ⟨fun h => h.2, fun h2 => ⟨h, h2⟩⟩)
theorem ask_ok {a : Au} {t : Tr} (h1 : auErr a = 0) (h2 : validErr a.ranks t = 0) : askErr a t = 0 := by
  unfold askErr; rw [if_neg (not_not_intro h1)]; exact h2
theorem acc_uni {a b : Au} {t : Tr} (ha : auErr a = 0) (hb : auErr b = 0) (hr : a.ranks = b.ranks) (hv : validErr a.ranks t = 0) (hs : a.states + b.states ≤ 256) (hu : a.rules.length + b.rules.length ≤ 65536) : accA (normA (uniA a b)) t = (accA a t || accA b t) ∧ askErr (normA (uniA a b)) t = 0 := by
  have h1 := AuOk.of ha
  have h2 := AuOk.of hb
  have hue : auErr (uniA a b) = 0 := (uniA_ok h1 h2 hr hs hu).err (show ranksErr a.ranks = 0 from ranks_of_auErr ha)
  have hq : askErr (normA (uniA a b)) t = 0 := ask_ok (norm_err hue) hv
  refine ⟨?_, hq⟩
  rw [acc_num hq, acc_num (ask_ok ha hv), acc_num (ask_ok hb (hr ▸ hv)), numA_norm, num_uni h1 h2]
  refine bool_iff ?_
  rw [Bool.or_eq_true, decide_eq_true_eq, decide_eq_true_eq, decide_eq_true_eq]
  omega
theorem acc_int {a b : Au} {t : Tr} (ha : auErr a = 0) (hb : auErr b = 0) (hr : a.ranks = b.ranks) (hv : validErr a.ranks t = 0) (hs : a.states * b.states ≤ 256) (hu : a.rules.length * b.rules.length ≤ 65536) : accA (normA (intA a b)) t = (accA a t && accA b t) ∧ askErr (normA (intA a b)) t = 0 := by
  have h1 := AuOk.of ha
  have h2 := AuOk.of hb
  have hue : auErr (intA a b) = 0 := (intA_ok h1 h2 hr hs hu).err (show ranksErr a.ranks = 0 from ranks_of_auErr ha)
  have hq : askErr (normA (intA a b)) t = 0 := ask_ok (norm_err hue) hv
  refine ⟨?_, hq⟩
  rw [acc_num hq, acc_num (ask_ok ha hv), acc_num (ask_ok hb (hr ▸ hv)), numA_norm, num_int h1 h2 hr]
  refine bool_iff ?_
  rw [Bool.and_eq_true, decide_eq_true_eq, decide_eq_true_eq, decide_eq_true_eq]
  exact ⟨fun h => ⟨Nat.pos_of_ne_zero fun e => by rw [e, Nat.zero_mul] at h; exact Nat.lt_irrefl 0 h, Nat.pos_of_ne_zero fun e => by rw [e, Nat.mul_zero] at h; exact Nat.lt_irrefl 0 h⟩, fun h => Nat.mul_pos h.1 h.2⟩
theorem num_le {a : Au} {t : Tr} {u f k : Nat} (hu : a.rules.length ≤ u) (hf : a.final.length ≤ f) (hk : t.size ≤ k) (hp : 0 < u) : numA a t ≤ f * u ^ k := by
  have h1 : ∀ q ∈ sortI a.final, t.cnt (sortO a.rules) q ≤ u ^ k := fun q _ => Nat.le_trans (Tr.cnt_le _ t q) (Nat.le_trans (Nat.pow_le_pow_left (Nat.le_trans (sortO_len _) hu) _) (Nat.pow_le_pow_right hp hk))
  exact Nat.le_trans (sum_bound h1) (Nat.mul_le_mul_right _ (Nat.le_trans (sortI_len _) hf))
theorem cnt_uni {a b : Au} (ha : AuOk a) (hb : AuOk b) (t : Tr) : cntA (normA (uniA a b)) t (sortI (normA (uniA a b)).final) = numA a t + numA b t := (numA_norm (uniA a b) t).trans (num_uni ha hb t)
theorem cnt_int {a b : Au} (ha : AuOk a) (hb : AuOk b) (hr : a.ranks = b.ranks) (t : Tr) : cntA (normA (intA a b)) t (sortI (normA (intA a b)).final) = numA a t * numA b t := (numA_norm (intA a b) t).trans (num_int ha hb hr t)
theorem num_big {a : Au} {t : Tr} (ha : AuOk a) (hf : a.final.length ≤ 1048576) (ht : t.size ≤ 4096) : numA a t < bigN := cntA_big ha (Nat.le_trans (sortI_len _) (by omega)) ht
end Pal
