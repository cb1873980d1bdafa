/-
  Ranges over maps; trees that fit; states of a tree. Own work. No statement of the seat is proved here.
-/
import Derived.Test.YtdclodapkhgabaaGreatPalNe
namespace Pal
open Go
section
variable {P : Program} {n : Nat} {c : Cx} {Q : Exit → Act → World → Prop} {l : KL} {hl : HL} {H : View} {ops : Array Oper} {rest : List Oper} {d : Nat} {ty : TypeId} {pos : String} {aft : Array Edge}
theorem MapAt.perm {b : Nat} {kvs : KVs} {hl' : HL} (h : MapAt H hl b kvs) (hp : hl.Perm hl') : MapAt H hl' b kvs := h.imp id fun h => hp.mem_iff.1 h
theorem K_range {t kt et : TypeId} {x : Operand} {m : Nat} {kvs : KVs} (ht : P.underlying t = some (.map kt et)) (hx : ev l x = some (mp m)) (hm : MapAt H hl m kvs) (hdn : Nat.blt d n = true)
    (h : ∀ b, KO P n c ops Q rest ((d, ptr b) :: l) (blk b (itO m kvs.length []) :: hl) H) : KO P n c ops Q (⟨some d, .range t x, ty, pos, aft, none⟩ :: rest) l hl H :=
  KE hl [] (by rw [List.append_nil]) (E_range ht hx fun w hw => hm.heap hw) hdn (by
    rintro v H' q _ ⟨b, rfl, rfl, rfl⟩
    rw [List.append_nil]; exact h b)
theorem K_next {x : Operand} {b m : Nat} {kvs : KVs} {seen : List Nat} (j : Nat) (hj : hl[j]? = some (blk b (itO m kvs.length seen))) (hx : ev l x = some (ptr b)) (hm : MapAt H hl m kvs) (hdn : Nat.blt d n = true)
    (h0 : (∀ i, i < kvs.length → i ∈ seen) → KO P n c ops Q rest ((d, .tuple #[.bool false]) :: l) hl H)
    (h1 : ∀ i q u, kvs[i]? = some (q, u) → i ∉ seen → KO P n c ops Q rest ((d, .tuple #[.bool true, .int .i64 q, u]) :: l) (hl.set j (blk b (itO m kvs.length (seen ++ [i])))) H) :
    KO P n c ops Q (⟨some d, .next x false, ty, pos, aft, none⟩ :: rest) l hl H := by
  have hp := perm_erase hj
  have hE := E_next (P := P) (ty := ty) (p := hl.eraseIdx j) hx (H := H) fun w hw => (hm.perm hp).heap hw
  refine KE (blk b (itO m kvs.length seen) :: hl.eraseIdx j) [] (by rw [List.append_nil]; exact hp) hE hdn ?_
  rintro v H' q _ ⟨rfl, ⟨rfl, rfl, hall⟩ | ⟨i, k, u, hk, hi, rfl, rfl⟩⟩
  · rw [List.append_nil]
    exact fun ρ w hm2 ho => h0 hall ρ w hm2 (ho.perm hp.symm)
  · rw [List.append_nil]
    exact fun ρ w hm2 ho => h1 i k u hk hi ρ w hm2 (ho.perm (perm_set hj))
theorem R_entry {x : Operand} {b m i : Nat} {kvs : KVs} {seen : List Nat} {q : Int} {u : Value} (j : Nat) (hj : hl[j]? = some (blk b (itO m kvs.length (seen ++ [i])))) (hx : ev l x = some (ptr b)) (hm : MapAt H hl m kvs) (hk : kvs[i]? = some (q, u)) :
    ValOk P l H hl (.entry x) ty (.tuple #[.int .i64 q, u]) := by
  intro e w hkn hw
  have hb : w.heap[b]? = some (.mapIter (some m) kvs.length ((seen.toArray).push i) kvs.length) := by
    have h := hw.own _ (List.mem_of_getElem? hj)
    have e2 : (seen ++ [i]).toArray = seen.toArray.push i := by simp
    have h2 : w.heap[b]? = some (itO m kvs.length (seen ++ [i])) := h
    rw [itO, e2] at h2
    exact h2
  have hmm : w.heap[m]? = some (.map (mkEs kvs) kvs.length) := hm.heap hw
  have hin : (⟨.int .i64 q, u, i⟩ : MapEntry) ∈ (mkEs kvs).toList := by
    have := mkEs_get kvs i
    rw [hk] at this
    exact Array.mem_toList_iff.2 (Array.mem_of_getElem? this)
  have hnd : ((mkEs kvs).toList.map (·.born)).Nodup := by
    have : (mkEs kvs).toList.map (·.born) = List.range kvs.length := by
      apply List.ext_getElem?
      intro k
      rw [List.getElem?_map, Array.getElem?_toList, mkEs_get]
      by_cases h : k < kvs.length
      · simp [h, entO]
      · simp [h]
    rw [this]; exact List.nodup_range
  have hr := run_entry_at (P := P) w b m kvs.length seen.toArray (mkEs kvs) kvs.length ⟨.int .i64 q, u, i⟩ hb hmm hin hnd
  simp only [ex, execOp, hkn x _ hx, ptr, Sem.run_bind, hr, Result.andThen_ok, Sem.run_pure]
end
theorem length_le_of_subset {α : Type} [DecidableEq α] : ∀ {xs ys : List α}, xs.Nodup → (∀ x ∈ xs, x ∈ ys) → xs.length ≤ ys.length
  | [], _, _, _ => Nat.zero_le _
  | x :: xs, ys, hn, h => by
    have g := List.nodup_cons.1 hn
    have hx := h x List.mem_cons_self
    have ih := length_le_of_subset (xs := xs) (ys := ys.erase x) g.2 fun y hy => by
      have hne : y ≠ x := fun e => g.1 (e ▸ hy)
      exact (List.mem_erase_of_ne hne).2 (h y (List.mem_cons_of_mem _ hy))
    have := List.length_erase_of_mem hx
    have := List.length_pos_of_mem hx
    simp only [List.length_cons]
    omega
theorem cnt_pos_to {rs : List Rl} {t : Tr} {q : Int} (h : 0 < t.cnt rs q) : ∃ r ∈ rs, r.to = q := by
  cases t with
  | node s ts =>
    rw [Tr.cnt] at h
    cases hf : rs.filter (fun r => decide (r.sym = s ∧ r.to = q)) with
    | nil => rw [hf] at h; simp at h
    | cons r l =>
      have hm : r ∈ rs.filter (fun r => decide (r.sym = s ∧ r.to = q)) := by rw [hf]; exact List.mem_cons_self
      have := List.mem_filter.1 hm
      exact ⟨r, this.1, (of_decide_eq_true this.2).2⟩
mutual
theorem Tr.fits_of {a : Au} (ha : AuOk a) {rs : List Rl} (hr : ∀ r ∈ rs, r ∈ a.rules) : ∀ (t : Tr), Tr.nodesErr a.ranks t = 0 → Tr.fits rs t
  | .node s ts, h => by
    obtain ⟨h1, h2, h3⟩ := Tr.nodesErr_zero.1 h
    refine ⟨fun r hr2 he => ?_, Tr.fitss_of ha hr ts h3⟩
    have h4 := (ha.ru r (hr r hr2)).2.2.1
    rw [he] at h4
    omega
theorem Tr.fitss_of {a : Au} (ha : AuOk a) {rs : List Rl} (hr : ∀ r ∈ rs, r ∈ a.rules) : ∀ (ts : List Tr), (∀ t ∈ ts, Tr.nodesErr a.ranks t = 0) → Tr.fitss rs ts
  | [], _ => trivial
  | t :: ts, h => ⟨Tr.fits_of ha hr t (h t List.mem_cons_self), Tr.fitss_of ha hr ts fun u hu => h u (List.mem_cons_of_mem _ hu)⟩
end
def askErr (a : Au) (t : Tr) : Int := if auErr a ≠ 0 then auErr a else validErr a.ranks t
theorem validErr_zero {rk : List Int} {t : Tr} (h : validErr rk t = 0) : t.size ≤ 4096 ∧ Tr.nodesErr rk t = 0 := by
  unfold validErr at h
  split at h
  · rename_i h1; exact absurd h h1
  · split at h
    · omega
    · split at h
      · omega
      · exact ⟨by omega, h⟩
theorem askErr_zero {a : Au} {t : Tr} (h : askErr a t = 0) : AuOk a ∧ t.size ≤ 4096 ∧ Tr.nodesErr a.ranks t = 0 := by
  unfold askErr at h
  split at h
  · rename_i h1; exact absurd h h1
  · rename_i h1
    exact ⟨AuOk.of (by omega), validErr_zero h⟩
theorem perm_lt {xs ys : List Int} (hp : xs.Perm ys) (hn : ys.Nodup) (hs : xs.Pairwise (· ≤ ·)) : xs.Pairwise (· < ·) := by
  have hn2 : xs.Pairwise (· ≠ ·) := hp.nodup_iff.2 hn
  exact (hs.and hn2).imp fun ⟨h1, h2⟩ => by omega
/-- The states of a tree, in their order. -/
def IsReach (rs : List Rl) (t : Tr) (L : List Int) : Prop := L.Pairwise (· < ·) ∧ ∀ q, q ∈ L ↔ 0 < t.cnt rs q
theorem RepNd.head {tn : TypeId} {H : View} {rs : List Rl} {t : Tr} {nd : Nd} (h : RepNd tn H rs t nd) : ∃ lv sv rb kvs, At H nd.b 0 [lv, sv, mp rb, mp nd.lm] ∧ H rb = some (mapOb kvs) ∧ RunP H (Tr.cnt rs t) kvs := by
  cases h with
  | mk s ts b lm rb ns a cap kvs hb hl hc hr hq hch => exact ⟨_, _, rb, kvs, At.of hb, hr, hq⟩
theorem run_keys {H : View} {rs : List Rl} {t : Tr} {kvs : KVs} (h : RunP H (Tr.cnt rs t) kvs) : (∀ q, q ∈ kvs.map (·.1) ↔ 0 < t.cnt rs q) ∧ kvs.length ≤ rs.length := by
  have h1 : ∀ q, q ∈ kvs.map (·.1) ↔ 0 < t.cnt rs q := fun q => lookI_isSome.symm.trans (h.isSome q)
  refine ⟨h1, ?_⟩
  have := length_le_of_subset (xs := kvs.map (·.1)) (ys := rs.map (·.to)) h.1 fun q hq => by
    obtain ⟨r, hr, e⟩ := cnt_pos_to ((h1 q).1 hq)
    exact List.mem_map.2 ⟨r, hr, e⟩
  simpa using this
/-- What a range has seen, when it has seen all. -/
theorem seen_all {kvs : KVs} {seen : List Nat} (hn : seen.Nodup) (hlt : ∀ i ∈ seen, i < kvs.length) (hall : ∀ i, i < kvs.length → i ∈ seen) : (seen.map fun i => kvs.getD i (0, nilS)).Perm kvs := by
  have hp : seen.Perm (List.range kvs.length) := (List.perm_ext_iff_of_nodup hn List.nodup_range).2 fun i => ⟨fun h => List.mem_range.2 (hlt i h), fun h => hall i (List.mem_range.1 h)⟩
  refine (hp.map _).trans ?_
  have : (List.range kvs.length).map (fun i => kvs.getD i (0, nilS)) = kvs := by
    apply List.ext_getElem?
    intro k
    rw [List.getElem?_map]
    by_cases h : k < kvs.length
    · simp [h, List.getD]
    · simp [h]
  rw [this]
theorem seen_len {n : Nat} {seen : List Nat} (hn : seen.Nodup) (hlt : ∀ i ∈ seen, i < n) : seen.length ≤ n := by
  have := length_le_of_subset (ys := List.range n) hn fun i hi => List.mem_range.2 (hlt i hi)
  simpa using this
theorem seen_snoc {n i : Nat} {seen : List Nat} (hn : seen.Nodup) (hlt : ∀ i ∈ seen, i < n) (hi : i ∉ seen) (hin : i < n) : (seen ++ [i]).Nodup ∧ (∀ j ∈ seen ++ [i], j < n) ∧ seen.length + 1 ≤ n := by
  have h1 : (seen ++ [i]).Nodup := List.nodup_append.2 ⟨hn, by simp, fun a ha b hb e => by simp at hb; subst hb; subst e; exact hi ha⟩
  have h2 : ∀ j ∈ seen ++ [i], j < n := fun j hj => by
    rcases List.mem_append.1 hj with h | h
    · exact hlt j h
    · simp at h; omega
  have h3 := seen_len h1 h2
  exact ⟨h1, h2, by simpa using h3⟩
def keysAt (kvs : KVs) (seen : List Nat) : List Int := seen.map fun i => (kvs.getD i (0, nilS)).1
theorem keysAt_len (kvs : KVs) (seen : List Nat) : (keysAt kvs seen).length = seen.length := by simp [keysAt]
theorem keysAt_snoc {kvs : KVs} {seen : List Nat} {i : Nat} {q : Int} {u : Value} (h : kvs[i]? = some (q, u)) : keysAt kvs (seen ++ [i]) = keysAt kvs seen ++ [q] := by
  simp [keysAt, List.getD, h]
theorem keysAt_all {kvs : KVs} {seen : List Nat} (hn : seen.Nodup) (hlt : ∀ i ∈ seen, i < kvs.length) (hall : ∀ i, i < kvs.length → i ∈ seen) : (keysAt kvs seen).Perm (kvs.map (·.1)) := by
  have := (seen_all hn hlt hall).map (·.1)
  rwa [List.map_map] at this
end Pal
namespace Pal
open Go
/-- The program's answers. -/
def accA (a : Au) (t : Tr) : Bool := decide (askErr a t = 0) && a.final.any fun q => decide (0 < t.cnt (sortO a.rules) q)
def cntA (a : Au) (t : Tr) (fs : List Int) : Nat := (fs.map fun q => t.cnt (sortO a.rules) q).sum
theorem cntA_snoc {a : Au} {t : Tr} {fs : List Int} {k : Nat} (hk : k < fs.length) : cntA a t (fs.take (k + 1)) = cntA a t (fs.take k) + t.cnt (sortO a.rules) fs[k] := by
  unfold cntA
  rw [List.take_succ_eq_append_getElem hk, List.map_append, List.sum_append]
  simp
theorem cntA_big {a : Au} {t : Tr} {fs : List Int} (hok : AuOk a) (hf : fs.length ≤ 1099511627776) (ht : t.size ≤ 4096) : cntA a t fs < bigN := by
  have hN : (sortO a.rules).length ≤ 65536 := Nat.le_trans (sortO_len _) hok.ul
  have h1 := sum_bound (F := fun q => t.cnt (sortO a.rules) q) (l := fs) (B := 65536 ^ t.size) fun q _ => Nat.le_trans (Tr.cnt_le _ t q) (Nat.pow_le_pow_left hN _)
  have h2 : fs.length * 65536 ^ t.size ≤ 65536 ^ 3 * 65536 ^ t.size := Nat.mul_le_mul_right _ (Nat.le_trans hf (by decide))
  have h3 : 65536 ^ 3 * 65536 ^ t.size = 65536 ^ (3 + t.size) := (Nat.pow_add _ _ _).symm
  rw [h3] at h2
  exact Nat.lt_of_le_of_lt (Nat.le_trans h1 h2) (pow_big (Nat.le_refl _) (by omega))
theorem cntA_take_le {a : Au} {t : Tr} {fs : List Int} {k : Nat} : cntA a t (fs.take k) ≤ cntA a t fs := by
  unfold cntA
  have h := List.take_append_drop k fs
  conv => rhs; rw [← h]
  rw [List.map_append, List.sum_append]
  omega
theorem acc_any {rs : List Rl} {t : Tr} {L F : List Int} (h : IsReach rs t L) : L.any (fun q => decide (q ∈ F)) = F.any fun q => decide (0 < t.cnt rs q) := by
  rw [Bool.eq_iff_iff, List.any_eq_true, List.any_eq_true]
  constructor
  · rintro ⟨q, hq, hf⟩; exact ⟨q, of_decide_eq_true hf, decide_eq_true ((h.2 q).1 hq)⟩
  · rintro ⟨q, hq, hf⟩; exact ⟨q, (h.2 q).2 (of_decide_eq_true hf), decide_eq_true hq⟩
end Pal
