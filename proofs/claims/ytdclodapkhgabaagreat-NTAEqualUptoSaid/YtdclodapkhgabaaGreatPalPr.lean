/-
  Library texts of the proof, put together. Own work. No statement of the seat is proved here.
-/
import Derived.Test.YtdclodapkhgabaaGreatPalRu
import Derived.Test.YtdclodapkhgabaaGreatPalO
/-
  The values of the small automaton that a law's own test runs on, and what the laws of reachable states and of runs come to: the
  library's answers and the reference's, told over the same sorted rules, are alike. Plain Lean, no program. Own work.
-/
namespace Go.Proofs.X
open Go Pal Go.Proofs
def kT : Tr := .node 1 [.node 0 [], .node 0 []]
def kLeaf : Tr := .node 0 []
theorem kv_ask : askErr knownA kT = 0 := by decide +kernel
theorem kv_best : bestF (sortO knownA.rules) kT knownA.final = some [0, 1, 1] := by decide +kernel
theorem kv_cnt : cntA knownA kT (sortI knownA.final) = 1 := by decide +kernel
theorem kv_acc : accA knownA kT = true := by decide +kernel
theorem kv_leaf : accA knownA kLeaf = true := by decide +kernel
theorem repT_leaf (H : View) (s : Int) (hs : i64ok s) : RepT H (.node s []) [.int .i64 s, .slice none 0 0] :=
  .mk s [] none 0 0 0 (fun _ => []) hs (fun h => absurd rfl h) (fun i hi => absurd hi (Nat.not_lt_zero i)) (fun i hi => absurd hi (Nat.not_lt_zero i))
theorem i64_small {x : Int} (h : 0 ≤ x ∧ x ≤ 1000) : i64ok x := by simp only [i64ok]; omega
theorem repT_kT (H : View) (b : Nat) {c : Array Value} {T : TypeId} {fz : Nat × Nat} (hb : H b = some (.cells c T fz)) (hc : c.toList = [.int .i64 0, .slice none 0 0, .int .i64 0, .slice none 0 0]) : RepT H kT [.int .i64 1, slc 2 b] :=
  .mk 1 [kLeaf, kLeaf] (some ⟨b, 0, none⟩) 2 b 0 (fun _ => [.int .i64 0, .slice none 0 0]) (i64_small (by decide)) (fun _ => rfl)
    (fun i hi => ⟨rfl, c, T, fz, hb, fun j v hj => by
      have hi : i < 2 := hi
      rw [show c[(0 + i * 2) + j]? = c.toList[(0 + i * 2) + j]? by simp, hc]
      obtain rfl | rfl : i = 0 ∨ i = 1 := by omega
      · match j, hj with
        | 0, hj => exact hj
        | 1, hj => exact hj
      · match j, hj with
        | 0, hj => exact hj
        | 1, hj => exact hj⟩)
    (fun i hi => by
      have hi : i < 2 := hi
      obtain rfl | rfl : i = 0 ∨ i = 1 := by omega
      · exact repT_leaf H 0 (i64_small (by decide))
      · exact repT_leaf H 0 (i64_small (by decide)))
theorem accA_is {a : Au} {t : Tr} (h : askErr a t = 0) : accA a t = decide (0 < (accR (sortO a.rules) t a.final).length) := by
  unfold accA
  rw [decide_eq_true h, Bool.true_and]
  by_cases h1 : a.final.any (fun q => decide (0 < t.cnt (sortO a.rules) q)) = true
  · rw [h1]
    exact (decide_eq_true ((accR_pos _ _ _).2 h1)).symm
  · rw [Bool.not_eq_true _ |>.mp h1]
    exact (decide_eq_false fun h2 => h1 ((accR_pos _ _ _).1 h2)).symm
theorem accA_no {a : Au} {t : Tr} (h : askErr a t ≠ 0) : accA a t = false := by
  unfold accA
  rw [decide_eq_false h, Bool.false_and]
theorem foldBest_some : ∀ (l : List (List Int)) (o : Option (List Int)), (l.foldl bestO o).isSome = (o.isSome || decide (0 < l.length))
  | [], o => by simp
  | x :: l, o => by
    rw [List.foldl_cons, foldBest_some l]
    have : (bestO o x).isSome = true := by cases o <;> simp only [bestO] <;> first | rfl | (split <;> rfl)
    rw [this]; simp
theorem best_some (rs : List Rl) (t : Tr) (F : List Int) : (bestF rs t F).isSome = decide (0 < (accR rs t F).length) := by
  rw [bestF_eq, foldBest_some]; rfl
theorem BestW.si {H : View} {w : Value} {o : Option (List Int)} (h : BestW H w o) : SI H w (o.getD []) ∧ (o.getD []).length ≤ 1048577 := by
  rcases h with ⟨rfl, rfl⟩ | ⟨x, a, cp, rfl, rfl, h3, h4⟩
  · exact ⟨⟨⟨none, 0, rfl, .inl ⟨rfl, rfl⟩⟩, fun x hx => by cases hx⟩, Nat.zero_le _⟩
  · exact ⟨h3, h4⟩
theorem accR_item {rs : List Rl} {t : Tr} {F x : List Int} (h : x ∈ accR rs t F) : x.length ≤ t.size :=
  Nat.le_of_eq (Tr.ways_len rs t x (List.mem_filter.1 h).1)
section rules
variable {P : Program} {n : Nat} {c : Cx} {l : KL} {hl : HL} {H : View} {v : Value} {ty : TypeId} {pos : String} {aft : Array Edge} {g : Option (Nat × Bool)} {ol : List Oper} {keep : HL} {fin : Bool} {T : ST} {R : List Nat} {i : Nat}
/-- A store of a whole block's cells in the chain. -/
theorem D_storeW {t : TypeId} {x y : Operand} {agg : Bool} {sz b : Nat} {cs cs' : Array Value} {E : TypeId} (hT : Ty P t agg sz) (j : Nat) (hi : nthO ol i = some ⟨none, .store t x y, ty, pos, aft, g⟩) (hw : wlO ol l g = some true)
    (hx : ev l x = some (.pointer (some ⟨b, 0, none⟩))) (hy : ev l y = some v) (hj : hl[j]? = some (blk b (.cells cs E (0, 0)))) (hkp : memAll keep (hl.eraseIdx j)) (hv : v.cells = cs') (hsz : cs'.size = sz) (hcs : cs.size = sz) (h1 : cs'.toList.all Value.oneCell' = true)
    (h : KD P n ol.toArray keep fin T R l (blk b (.cells cs' E (0, 0)) :: hl.eraseIdx j) H) : KD P n ol.toArray keep fin T (i :: R) l hl H := by
  subst hv
  refine D_store hT j hi hw hx hy hj hkp (by simpa using hsz) (Nat.ble_eq.mpr (by simp [hsz, hcs])) h1 ?_
  rw [putCells_all (by rw [hsz, hcs])]
  exact h
end rules
end Go.Proofs.X

/-
  Automata up to order and duplicates: sorted forms of sorted forms, the reference's Same, and the automaton with nothing in it that stands beside
  an error. Plain Lean, no program. Own work.
-/
namespace Go.Proofs.X
open Go Pal Go.Proofs
deriving instance DecidableEq for Rl
def zeroA : Au := ⟨[], 0, [], []⟩
def errAu (e : Int) (b : Au) : Au := if e = 0 then b else zeroA
theorem errAu_ok {e : Int} {b : Au} (h : e = 0) : errAu e b = b := if_pos h
theorem errAu_no {e : Int} {b : Au} (h : e ≠ 0) : errAu e b = zeroA := if_neg h
theorem eqP_is (p q : Rl × Value) : eqP p q = decide (p.1 = q.1) := by
  unfold eqP
  exact decide_eq_decide.2 ordR_eq
theorem sameM_dec (a b : Au) : sameM a b = decide (a.ranks = b.ranks ∧ a.states = b.states ∧ sortI a.final = sortI b.final ∧ sortO a.rules = sortO b.rules) := by
  by_cases h : a.ranks = b.ranks ∧ a.states = b.states ∧ sortI a.final = sortI b.final ∧ sortO a.rules = sortO b.rules
  · rw [decide_eq_true h]; exact (sameM_iff a b).2 h
  · rw [decide_eq_false h]
    cases h2 : sameM a b with
    | false => rfl
    | true => exact absurd ((sameM_iff a b).1 h2) h
theorem sortO_idem (rs : List Rl) : sortO (sortO rs) = sortO rs := sortO_congr fun _ => sortO_mem
theorem sortI_idem (xs : List Int) : sortI (sortI xs) = sortI xs := sortI_congr fun _ => sortI_mem
theorem norm_idem (a : Au) : normA (normA a) = normA a := by
  unfold normA
  simp only [sortO_idem, sortI_idem]
theorem same_norm (a : Au) : sameM (normA a) a = true := (sameM_iff _ _).2 ⟨rfl, rfl, sortI_idem _, sortO_idem _⟩
theorem same_of_norm {a b : Au} (h : normA a = normA b) : sameM a b = true := by
  unfold normA at h
  injection h with h1 h2 h4 h3
  exact (sameM_iff _ _).2 ⟨h1, h2, h3, h4⟩
theorem norm_of_same {a b : Au} (h : sameM a b = true) : normA a = normA b := by
  obtain ⟨h1, h2, h3, h4⟩ := (sameM_iff _ _).1 h
  unfold normA
  rw [h1, h2, h3, h4]
theorem _root_.Pal.AuOk.args2 {a : Au} (h : AuOk a) : ∀ r ∈ a.rules, r.args.length ≤ 2 := fun r hr => by
  obtain ⟨h1, h2, h3, _⟩ := h.ru r hr
  have hlt : r.sym.toNat < a.ranks.length := by omega
  have h4 := (h.rk r.sym.toNat hlt).2
  have h5 : a.ranks.getD r.sym.toNat 0 = a.ranks[r.sym.toNat] := by simp [List.getD, hlt]
  omega
end Go.Proofs.X

/-
  The image and the inverse image of an automaton under a mapping of symbols, in plain Lean, with the rules that a walk over a row of rules
  needs that is changed in place. Own work. No statement of the seat is proved here.
-/
namespace Pal
open Go Go.Proofs Go.Proofs.X
def turnErr (a : Au) (rk : List Int) : Int := if auErr a ≠ 0 then auErr a else ranksErr rk
def relErr (a : Au) (l rk : List Int) : Int := if turnErr a rk ≠ 0 then turnErr a rk else if mapsM l a.ranks rk = true then 0 else 3
def invErr (a : Au) (l rk : List Int) : Int := if turnErr a rk ≠ 0 then turnErr a rk else if mapsM l rk a.ranks = true then 0 else 3
def imgR (l : List Int) (r : Rl) : Rl := ⟨l.getD r.sym.toNat 0, r.args, r.to⟩
def imgA (a : Au) (l rk : List Int) : Au := ⟨rk, a.states, a.rules.map (imgR l), a.final⟩
def backS (l : List Int) (rs : List Rl) (s : Nat) : List Rl := (rs.filter fun r => decide (r.sym = l.getD s 0)).map fun r => ⟨(s : Int), r.args, r.to⟩
def backR (l : List Int) (rs : List Rl) (n : Nat) : List Rl := (List.range n).flatMap (backS l rs)
def backA (a : Au) (l rk : List Int) : Au := ⟨rk, a.states, backR l a.rules l.length, a.final⟩
theorem backR_succ (l : List Int) (rs : List Rl) (n : Nat) : backR l rs (n + 1) = backR l rs n ++ backS l rs n := by
  simp [backR, List.range_succ]
theorem backS_snoc {l : List Int} {rs : List Rl} {s k : Nat} (hk : k < rs.length) : backS l (rs.take (k + 1)) s = backS l (rs.take k) s ++ if rs[k].sym = l.getD s 0 then [⟨(s : Int), rs[k].args, rs[k].to⟩] else [] := by
  unfold backS
  rw [List.take_succ_eq_append_getElem hk, List.filter_append, List.map_append]
  congr 1
  by_cases h : rs[k].sym = l.getD s 0
  · rw [if_pos h, List.filter_cons, decide_eq_true h]; rfl
  · rw [if_neg h, List.filter_cons, decide_eq_false h]; rfl
theorem backS_len (l : List Int) (rs : List Rl) (s : Nat) : (backS l rs s).length ≤ rs.length := by
  unfold backS; rw [List.length_map]; exact List.length_filter_le _ _
theorem backR_len (l : List Int) (rs : List Rl) : ∀ n, (backR l rs n).length ≤ n * rs.length
  | 0 => by simp [backR]
  | n + 1 => by
    rw [backR_succ, List.length_append, Nat.succ_mul]
    exact Nat.add_le_add (backR_len l rs n) (backS_len l rs n)
theorem backS_mem {l : List Int} {rs : List Rl} {s : Nat} {r : Rl} : r ∈ backS l rs s ↔ r.sym = (s : Int) ∧ ⟨l.getD s 0, r.args, r.to⟩ ∈ rs := by
  simp only [backS, List.mem_map, List.mem_filter, decide_eq_true_eq]
  constructor
  · rintro ⟨x, ⟨h1, h2⟩, rfl⟩
    refine ⟨rfl, ?_⟩
    have : x = ⟨l.getD s 0, x.args, x.to⟩ := by rw [← h2]
    exact this ▸ h1
  · rintro ⟨h1, h2⟩
    exact ⟨_, ⟨h2, rfl⟩, by rw [← h1]⟩
theorem backR_mem {l : List Int} {rs : List Rl} {n : Nat} {r : Rl} : r ∈ backR l rs n ↔ ∃ s, s < n ∧ r.sym = (s : Int) ∧ ⟨l.getD s 0, r.args, r.to⟩ ∈ rs := by
  simp only [backR, List.mem_flatMap, List.mem_range, backS_mem]
theorem backR_sort (l : List Int) (rs : List Rl) (n : Nat) : sortO (backR l (sortO rs) n) = sortO (backR l rs n) :=
  sortO_congr fun x => by simp only [backR_mem, sortO_mem]
theorem imgA_ok {a : Au} {l rk : List Int} (h : AuOk a) (hr : ranksErr rk = 0) (hm : mapsM l a.ranks rk = true) : AuOk (imgA a l rk) := by
  obtain ⟨h1, h2⟩ := mapsM_iff.1 hm
  obtain ⟨r1, r2⟩ := ranksErr_ok hr
  refine ⟨r1, r2, h.st, by simpa [imgA] using h.ul, fun r hr => ?_, h.fi⟩
  obtain ⟨q, hq, rfl⟩ := List.mem_map.1 hr
  obtain ⟨k1, k2, k3, k4, k5⟩ := h.ru q hq
  have hlt : q.sym.toNat < l.length := by omega
  have e := h2 q.sym.toNat hlt (by omega)
  have e0 : l.getD q.sym.toNat 0 = l[q.sym.toNat] := by simp [List.getD, hlt]
  refine ⟨?_, ?_, ?_, k4, k5⟩
  · show 0 ≤ l.getD q.sym.toNat 0
    rw [e0]; exact e.1.1
  · show l.getD q.sym.toNat 0 < _
    rw [e0]; exact e.1.2
  · show (q.args.length : Int) = rk.getD (l.getD q.sym.toNat 0).toNat 0
    have hlt2 : q.sym.toNat < a.ranks.length := by omega
    rw [e0, e.2, k3]
    simp [List.getD, hlt2]
theorem backA_ok {a : Au} {l rk : List Int} (h : AuOk a) (hr : ranksErr rk = 0) (hm : mapsM l rk a.ranks = true) (hb : l.length * a.rules.length ≤ 65536) : AuOk (backA a l rk) := by
  obtain ⟨h1, h2⟩ := mapsM_iff.1 hm
  obtain ⟨r1, r2⟩ := ranksErr_ok hr
  refine ⟨r1, r2, h.st, Nat.le_trans (backR_len _ _ _) hb, fun r hr => ?_, h.fi⟩
  obtain ⟨s, hs, e1, hq⟩ := backR_mem.1 hr
  obtain ⟨k1, k2, k3, k4, k5⟩ := h.ru _ hq
  have e := h2 s hs (by omega)
  have e0 : l.getD s 0 = l[s] := by simp [List.getD, hs]
  refine ⟨by omega, ?_, ?_, k4, k5⟩
  · show r.sym < (rk.length : Int)
    omega
  · show (r.args.length : Int) = rk.getD r.sym.toNat 0
    rw [e1]
    have hlt : s < rk.length := by omega
    have e3 := k3
    dsimp only at e3
    rw [e3, e0, e.2]
    simp [List.getD, hlt]
theorem backS_symR (l : List Int) (rs : List Rl) (s : Nat) : backS l rs s = (symR rs (l.getD s 0)).map fun r => ⟨(s : Int), r.args, r.to⟩ := rfl
theorem backR_step (l : List Int) (rs : List Rl) (k : Nat) : (backR l rs (k + 1)).length = (backR l rs k).length + (symR rs (l.getD k 0)).length := by
  rw [backR_succ, List.length_append, backS_symR, List.length_map]
theorem backR_fit {l : List Int} {a : Au} (hb : l.length * a.rules.length ≤ 65536) {k : Nat} (hk : k ≤ l.length) : (backR l (sortO a.rules) k).length ≤ 65536 :=
  Nat.le_trans (backR_len _ _ _) (Nat.le_trans (Nat.mul_le_mul hk (sortO_len _)) hb)
theorem back_norm (a : Au) (l rk : List Int) : normA ⟨rk, a.states, backR l (sortO a.rules) l.length, a.final⟩ = normA (backA a l rk) := by
  unfold normA backA
  simp only [backR_sort]
/-! ### A row of rules changed in place -/
def imgP (l : List Int) (p : Rl × Value) : Rl × Value := (imgR l p.1, p.2)
def qsAt (l : List Int) (ps : List (Rl × Value)) (k : Nat) : List (Rl × Value) := (ps.take k).map (imgP l) ++ ps.drop k
theorem qsAt_len (l : List Int) (ps : List (Rl × Value)) (k : Nat) : (qsAt l ps k).length = ps.length := by
  simp only [qsAt, List.length_append, List.length_map, List.length_take, List.length_drop]; omega
theorem qsAt_zero (l : List Int) (ps : List (Rl × Value)) : qsAt l ps 0 = ps := by simp [qsAt]
theorem qsAt_full (l : List Int) (ps : List (Rl × Value)) : qsAt l ps ps.length = ps.map (imgP l) := by simp [qsAt]
theorem qsAt_get {l : List Int} {ps : List (Rl × Value)} {k : Nat} (hk : k < ps.length) : (qsAt l ps k)[k]'(by rw [qsAt_len]; exact hk) = ps[k] := by
  have h0 : ((ps.take k).map (imgP l)).length = k := by simp; omega
  simp only [qsAt]
  rw [List.getElem_append_right (by omega)]
  simp only [h0, Nat.sub_self, List.getElem_drop]
  rfl
theorem qsAt_set {l : List Int} {ps : List (Rl × Value)} {k : Nat} (hk : k < ps.length) : (qsAt l ps k).set k (imgP l ps[k]) = qsAt l ps (k + 1) := by
  have h0 : ((ps.take k).map (imgP l)).length = k := by simp; omega
  unfold qsAt
  rw [List.set_append_right _ _ (by omega), h0, Nat.sub_self, List.drop_eq_getElem_cons hk, List.set_cons_zero, List.take_succ_eq_append_getElem hk, List.map_append, List.append_assoc]
  rfl
theorem put_sym (qs : List (Rl × Value)) (tail : List Value) {k off : Nat} (hk : k < qs.length) (ho : off = k * 3) (x : Int) :
    putCells (cellsP qs ++ tail).toArray off [.int .i64 x] = (cellsP (qs.set k (⟨x, qs[k].1.args, qs[k].1.to⟩, qs[k].2)) ++ tail).toArray := by
  subst ho
  unfold putCells putL
  congr 1
  have e : qs = qs.take k ++ qs[k] :: qs.drop (k + 1) := by simp
  have e2 : qs.set k (⟨x, qs[k].1.args, qs[k].1.to⟩, qs[k].2) = qs.take k ++ (⟨x, qs[k].1.args, qs[k].1.to⟩, qs[k].2) :: qs.drop (k + 1) := List.set_eq_take_append_cons_drop .. |>.trans (by rw [if_pos hk])
  have hl : (cellsP (qs.take k)).length = k * 3 := by rw [cellsP_len, List.length_take, Nat.min_eq_left (by omega)]
  have h2 : cellsP qs ++ tail = cellsP (qs.take k) ++ (.int .i64 qs[k].1.sym :: ([qs[k].2, .int .i64 qs[k].1.to] ++ (cellsP (qs.drop (k + 1)) ++ tail))) := by
    have hc : cellsP qs = cellsP (qs.take k) ++ (cellRV qs[k] ++ cellsP (qs.drop (k + 1))) := by
      conv => lhs; rw [e]
      unfold cellsP; rw [List.flatMap_append, List.flatMap_cons]
    rw [hc]
    simp only [List.append_assoc]
    rfl
  have h3 : cellsP (qs.set k (⟨x, qs[k].1.args, qs[k].1.to⟩, qs[k].2)) ++ tail = cellsP (qs.take k) ++ (.int .i64 x :: ([qs[k].2, .int .i64 qs[k].1.to] ++ (cellsP (qs.drop (k + 1)) ++ tail))) := by
    rw [e2]
    unfold cellsP
    rw [List.flatMap_append, List.flatMap_cons]
    simp only [List.append_assoc]
    rfl
  show (cellsP qs ++ tail).take (k * 3) ++ [Value.int .i64 x] ++ (cellsP qs ++ tail).drop (k * 3 + 1) = _
  have ht : (cellsP qs ++ tail).take (k * 3) = cellsP (qs.take k) := by rw [h2]; exact List.take_left' hl
  have hd : (cellsP qs ++ tail).drop (k * 3 + 1) = [qs[k].2, .int .i64 qs[k].1.to] ++ (cellsP (qs.drop (k + 1)) ++ tail) := by
    rw [h2, List.drop_append, hl, List.drop_of_length_le (by omega), show k * 3 + 1 - k * 3 = 1 by omega]
    rfl
  rw [hd, ht, h3, List.append_assoc]
  rfl
theorem put_img {l : List Int} {ps : List (Rl × Value)} {k off : Nat} (tail : List Value) (hk : k < ps.length) (ho : off = k * 3) :
    putCells (cellsP (qsAt l ps k) ++ tail).toArray off [.int .i64 (l.getD ps[k].1.sym.toNat 0)] = (cellsP (qsAt l ps (k + 1)) ++ tail).toArray := by
  have hk2 : k < (qsAt l ps k).length := by rw [qsAt_len]; exact hk
  rw [put_sym (qsAt l ps k) tail hk2 ho]
  have e : ((⟨l.getD ps[k].1.sym.toNat 0, (qsAt l ps k)[k].1.args, (qsAt l ps k)[k].1.to⟩ : Rl), (qsAt l ps k)[k].2) = imgP l ps[k] := by rw [qsAt_get hk]; rfl
  rw [e, qsAt_set hk]
section rules
variable {P : Program} {n : Nat} {c : Cx} {Q : Exit → Act → World → Prop} {l : KL} {hl : HL} {H : View}
theorem KQ_pubmany {x : Exit} {ti : TypeId} {ps : List (Rl × Value)} (hb : ∀ p ∈ ps, RlB p.1) (h : ∀ H', VLe H H' → (∀ p ∈ ps, RVok H' p) → KQ n c Q x l hl H') : KQ n c Q x l (many (rowsFrom ti ps) :: hl) H := by
  intro ρ w hm ho
  obtain ⟨H', h1, h2, h3⟩ := ho.pub_many hb
  exact h H' h1 h2 ρ w hm h3
end rules
end Pal

/-
  Trees with turned symbols; when a run exists; images and inverse images accept alike. Plain Lean, no program. Own work.
-/
namespace Pal
open Go Go.Proofs Go.Proofs.X
def turnS (l : List Int) (s : Int) : Int := if 0 ≤ s ∧ s < l.length then l.getD s.toNat 0 else 0
mutual
def Tr.turn (l : List Int) : Tr → Tr
  | .node s ts => .node (turnS l s) (Tr.turns l ts)
def Tr.turns (l : List Int) : List Tr → List Tr
  | [] => []
  | t :: r => Tr.turn l t :: Tr.turns l r
end
theorem Tr.turns_map (l : List Int) : ∀ ts, Tr.turns l ts = ts.map (Tr.turn l)
  | [] => rfl
  | t :: r => by rw [Tr.turns, Tr.turns_map l r]; rfl
mutual
theorem Tr.turn_relabel {l : List Int} : ∀ (t u : Tr), Tr.relabel l t = some u → Tr.turn l t = u
  | .node s ts, u, h => by
    simp only [Tr.relabel] at h
    split at h
    · rename_i hs
      cases hr : Tr.relabels l ts with
      | none => rw [hr] at h; simp at h
      | some us =>
        rw [hr] at h
        simp only [Option.map_some, Option.some.injEq] at h
        subst h
        rw [Tr.turn, Tr.turns_relabel ts us hr]
        unfold turnS
        rw [if_pos hs]
    · cases h
theorem Tr.turns_relabel {l : List Int} : ∀ (ts us : List Tr), Tr.relabels l ts = some us → Tr.turns l ts = us
  | [], us, h => by simp [Tr.relabels] at h; subst h; rfl
  | t :: r, us, h => by
    simp only [Tr.relabels] at h
    cases ht : Tr.relabel l t with
    | none => rw [ht] at h; cases h
    | some u =>
      rw [ht] at h
      cases hr : Tr.relabels l r with
      | none => rw [hr] at h; simp at h
      | some vs =>
        rw [hr] at h
        simp only [Option.map_some, Option.some.injEq] at h
        subst h
        rw [Tr.turns, Tr.turn_relabel t u ht, Tr.turns_relabel r vs hr]
end
mutual
theorem Tr.turn_size (l : List Int) : ∀ t : Tr, (Tr.turn l t).size = t.size
  | .node s ts => by simp only [Tr.turn, Tr.size, Tr.turns_size l ts]
theorem Tr.turns_size (l : List Int) : ∀ ts : List Tr, Tr.sizes (Tr.turns l ts) = Tr.sizes ts
  | [] => rfl
  | t :: r => by simp only [Tr.turns, Tr.sizes, Tr.turn_size l t, Tr.turns_size l r]
end
/-! ### When there is a run -/
theorem sum_pos_iff {α : Type} (f : α → Nat) : ∀ l : List α, 0 < (l.map f).sum ↔ ∃ x ∈ l, 0 < f x
  | [] => by simp
  | a :: l => by
    have ih := sum_pos_iff f l
    simp only [List.map_cons, List.sum_cons, List.mem_cons, exists_eq_or_imp]
    rw [← ih]; omega
theorem Tr.cnt_pos {rs : List Rl} {s : Int} {ts : List Tr} {q : Int} : 0 < Tr.cnt rs (.node s ts) q ↔ ∃ r ∈ rs, r.sym = s ∧ r.to = q ∧ 0 < Tr.cnts rs ts r.args := by
  rw [Tr.cnt, sum_pos_iff]
  constructor
  · rintro ⟨r, hr, h⟩
    obtain ⟨h1, h2⟩ := List.mem_filter.1 hr
    have h3 := of_decide_eq_true h2
    exact ⟨r, h1, h3.1, h3.2, h⟩
  · rintro ⟨r, h1, h2, h3, h⟩
    exact ⟨r, List.mem_filter.2 ⟨h1, decide_eq_true ⟨h2, h3⟩⟩, h⟩
theorem Tr.cnts_pos {rs : List Rl} {t : Tr} {ts : List Tr} {q : Int} {qs : List Int} : 0 < Tr.cnts rs (t :: ts) (q :: qs) ↔ 0 < Tr.cnt rs t q ∧ 0 < Tr.cnts rs ts qs := by
  rw [Tr.cnts]
  constructor
  · intro h
    exact ⟨Nat.pos_of_ne_zero fun e => by rw [e] at h; simp at h, Nat.pos_of_ne_zero fun e => by rw [e] at h; simp at h⟩
  · rintro ⟨h1, h2⟩; exact Nat.mul_pos h1 h2
mutual
theorem Tr.cnt_mono {rs rs' : List Rl} (h : ∀ x ∈ rs, x ∈ rs') : ∀ (t : Tr) (q : Int), 0 < t.cnt rs q → 0 < t.cnt rs' q
  | .node s ts, q, hp => by
    obtain ⟨r, h1, h2, h3, h4⟩ := Tr.cnt_pos.1 hp
    exact Tr.cnt_pos.2 ⟨r, h r h1, h2, h3, Tr.cnts_mono h ts r.args h4⟩
theorem Tr.cnts_mono {rs rs' : List Rl} (h : ∀ x ∈ rs, x ∈ rs') : ∀ (ts : List Tr) (qs : List Int), 0 < Tr.cnts rs ts qs → 0 < Tr.cnts rs' ts qs
  | [], [], _ => Nat.one_pos
  | t :: ts, q :: qs, hp => by
    obtain ⟨h1, h2⟩ := Tr.cnts_pos.1 hp
    exact Tr.cnts_pos.2 ⟨Tr.cnt_mono h t q h1, Tr.cnts_mono h ts qs h2⟩
  | [], _ :: _, hp => absurd hp (Nat.lt_irrefl 0)
  | _ :: _, [], hp => absurd hp (Nat.lt_irrefl 0)
end
theorem cnt_sortO (rs : List Rl) (t : Tr) (q : Int) : 0 < t.cnt (sortO rs) q ↔ 0 < t.cnt rs q :=
  ⟨Tr.cnt_mono (fun _ h => sortO_mem.1 h) t q, Tr.cnt_mono (fun _ h => sortO_mem.2 h) t q⟩
theorem accA_iff {a : Au} {t : Tr} : accA a t = true ↔ askErr a t = 0 ∧ ∃ q ∈ a.final, 0 < t.cnt a.rules q := by
  unfold accA
  rw [Bool.and_eq_true, decide_eq_true_eq, List.any_eq_true]
  simp only [decide_eq_true_eq, cnt_sortO]
theorem norm_err {a : Au} (h : auErr a = 0) : auErr (normA a) = 0 := by
  have hok := AuOk.of h
  have hr : ranksErr a.ranks = 0 := by
    unfold auErr at h
    split at h
    · rename_i h1; exact absurd h h1
    · rename_i h1; exact Decidable.not_not.1 h1
  exact (normA_ok hok).err hr
theorem ranks_of_auErr {a : Au} (h : auErr a = 0) : ranksErr a.ranks = 0 := by
  unfold auErr at h
  split at h
  · rename_i h1; exact absurd h h1
  · rename_i h1; exact Decidable.not_not.1 h1
theorem ask_norm {a : Au} (h : auErr a = 0) (t : Tr) : askErr (normA a) t = askErr a t := by
  unfold askErr
  rw [if_neg (not_not_intro (norm_err h)), if_neg (not_not_intro h)]
  rfl
theorem bool_iff {a b : Bool} (h : a = true ↔ b = true) : a = b := by cases a <;> cases b <;> simp_all
theorem acc_norm {a : Au} (h : auErr a = 0) (t : Tr) : accA (normA a) t = accA a t := bool_iff (by
  rw [accA_iff, accA_iff, ask_norm h]
  show _ ∧ (∃ q ∈ sortI a.final, 0 < t.cnt (sortO a.rules) q) ↔ _
  simp only [sortI_mem, cnt_sortO])
/-! ### Images and inverse images -/
mutual
theorem Tr.cnt_img {l : List Int} {rs : List Rl} : ∀ (t u : Tr), Tr.relabel l t = some u → ∀ q, 0 < t.cnt rs q → 0 < u.cnt (rs.map (imgR l)) q
  | .node s ts, u, h, q, hp => by
    simp only [Tr.relabel] at h
    split at h
    · rename_i hs
      cases hr : Tr.relabels l ts with
      | none => rw [hr] at h; simp at h
      | some us =>
        rw [hr] at h
        simp only [Option.map_some, Option.some.injEq] at h
        subst h
        obtain ⟨r, h1, h2, h3, h4⟩ := Tr.cnt_pos.1 hp
        exact Tr.cnt_pos.2 ⟨imgR l r, List.mem_map.2 ⟨r, h1, rfl⟩, by subst h2; rfl, h3, Tr.cnts_img ts us hr r.args h4⟩
    · cases h
theorem Tr.cnts_img {l : List Int} {rs : List Rl} : ∀ (ts us : List Tr), Tr.relabels l ts = some us → ∀ qs, 0 < Tr.cnts rs ts qs → 0 < Tr.cnts (rs.map (imgR l)) us qs
  | [], us, h, qs, hp => by
    simp [Tr.relabels] at h; subst h
    cases qs with
    | nil => exact Nat.one_pos
    | cons q qs => exact absurd hp (Nat.lt_irrefl 0)
  | t :: r, us, h, qs, hp => by
    simp only [Tr.relabels] at h
    cases ht : Tr.relabel l t with
    | none => rw [ht] at h; cases h
    | some u =>
      rw [ht] at h
      cases hr : Tr.relabels l r with
      | none => rw [hr] at h; simp at h
      | some vs =>
        rw [hr] at h
        simp only [Option.map_some, Option.some.injEq] at h
        subst h
        cases qs with
        | nil => exact absurd hp (Nat.lt_irrefl 0)
        | cons q qs =>
          obtain ⟨h1, h2⟩ := Tr.cnts_pos.1 hp
          exact Tr.cnts_pos.2 ⟨Tr.cnt_img t u ht q h1, Tr.cnts_img r vs hr qs h2⟩
end
mutual
theorem Tr.cnt_back {l : List Int} {rs : List Rl} : ∀ (t u : Tr), Tr.relabel l t = some u → ∀ q, 0 < t.cnt (backR l rs l.length) q ↔ 0 < u.cnt rs q
  | .node s ts, u, h, q => by
    simp only [Tr.relabel] at h
    split at h
    · rename_i hs
      cases hr : Tr.relabels l ts with
      | none => rw [hr] at h; simp at h
      | some us =>
        rw [hr] at h
        simp only [Option.map_some, Option.some.injEq] at h
        subst h
        rw [Tr.cnt_pos, Tr.cnt_pos]
        constructor
        · rintro ⟨r, h1, h2, h3, h4⟩
          obtain ⟨n, hn, e, hm⟩ := backR_mem.1 h1
          have hsn : s.toNat = n := by omega
          exact ⟨_, hm, by rw [hsn], h3, (Tr.cnts_back ts us hr r.args).1 h4⟩
        · rintro ⟨r, h1, h2, h3, h4⟩
          refine ⟨⟨s, r.args, r.to⟩, backR_mem.2 ⟨s.toNat, by omega, by show s = _; omega, ?_⟩, rfl, h3, (Tr.cnts_back ts us hr r.args).2 h4⟩
          rw [← h2]; exact h1
    · cases h
theorem Tr.cnts_back {l : List Int} {rs : List Rl} : ∀ (ts us : List Tr), Tr.relabels l ts = some us → ∀ qs, 0 < Tr.cnts (backR l rs l.length) ts qs ↔ 0 < Tr.cnts rs us qs
  | [], us, h, qs => by
    simp [Tr.relabels] at h; subst h
    cases qs <;> exact Iff.rfl
  | t :: r, us, h, qs => by
    simp only [Tr.relabels] at h
    cases ht : Tr.relabel l t with
    | none => rw [ht] at h; cases h
    | some u =>
      rw [ht] at h
      cases hr : Tr.relabels l r with
      | none => rw [hr] at h; simp at h
      | some vs =>
        rw [hr] at h
        simp only [Option.map_some, Option.some.injEq] at h
        subst h
        cases qs with
        | nil => exact Iff.rfl
        | cons q qs => rw [Tr.cnts_pos, Tr.cnts_pos, Tr.cnt_back t u ht q, Tr.cnts_back r vs hr qs]
end
/-- What a right tree turns into. -/
theorem turn_right {rk rk' l : List Int} {t : Tr} (hr : ranksErr rk' = 0) (hm : mapsM l rk rk' = true) (hv : validErr rk t = 0) : Tr.relabel l t = some (Tr.turn l t) ∧ validErr rk' (Tr.turn l t) = 0 := by
  unfold validErr at hv
  split at hv
  · rename_i h; exact absurd hv h
  · split at hv
    · cases hv
    · split at hv
      · cases hv
      · rename_i h1 h2
        obtain ⟨u, g1, g2, _⟩ := Tr.relabel_run (d := ⟨rk', [], []⟩) hm t hv
        rw [Tr.turn_relabel t u g1]
        refine ⟨g1, ?_⟩
        unfold validErr
        rw [if_neg (by rw [hr]; simp), Tr.relabel_size _ _ g1, Tr.relabel_deep _ _ g1, if_neg h1, if_neg h2, g2]
theorem acc_img {a : Au} {l : List Int} {t : Tr} (h : auErr a = 0) (hm : mapsM l a.ranks a.ranks = true) (hv : validErr a.ranks t = 0) (hacc : accA a t = true) : accA (normA (imgA a l a.ranks)) (Tr.turn l t) = true := by
  have hrk := ranks_of_auErr h
  obtain ⟨h1, h2⟩ := turn_right hrk hm hv
  have hie : auErr (imgA a l a.ranks) = 0 := (imgA_ok (AuOk.of h) hrk hm).err hrk
  rw [acc_norm hie, accA_iff]
  obtain ⟨_, q, hq, hp⟩ := accA_iff.1 hacc
  refine ⟨?_, q, hq, Tr.cnt_img t _ h1 q hp⟩
  unfold askErr
  rw [if_neg (not_not_intro hie)]
  exact h2
theorem acc_back {a : Au} {l : List Int} {t : Tr} (h : auErr a = 0) (hm : mapsM l a.ranks a.ranks = true) (hv : validErr a.ranks t = 0) (hb : l.length * a.rules.length ≤ 65536) : accA (normA (backA a l a.ranks)) t = accA a (Tr.turn l t) := by
  have hrk := ranks_of_auErr h
  obtain ⟨h1, h2⟩ := turn_right hrk hm hv
  have hie : auErr (backA a l a.ranks) = 0 := (backA_ok (AuOk.of h) hrk hm hb).err hrk
  refine bool_iff ?_
  rw [acc_norm hie, accA_iff, accA_iff]
  have e1 : askErr (backA a l a.ranks) t = 0 := by unfold askErr; rw [if_neg (not_not_intro hie)]; exact hv
  have e2 : askErr a (Tr.turn l t) = 0 := by unfold askErr; rw [if_neg (not_not_intro h)]; exact h2
  rw [e1, e2]
  show _ ∧ (∃ q ∈ a.final, 0 < t.cnt (backR l a.rules l.length) q) ↔ _
  simp only [Tr.cnt_back t _ h1]
end Pal

/-
  Two automata beside each other, and the rules that a walk over owned rows of sources needs that are changed one at a time. Own work.
  No statement of the seat is proved here.
-/
namespace Pal
open Go Go.Proofs Go.Proofs.X
def twoErr (a b : Au) : Int := if auErr a ≠ 0 then auErr a else if auErr b ≠ 0 then auErr b else if a.ranks = b.ranks then 0 else 3
theorem twoErr_zero {a b : Au} (h : twoErr a b = 0) : auErr a = 0 ∧ auErr b = 0 ∧ a.ranks = b.ranks := by
  unfold twoErr at h
  split at h
  · rename_i h1; exact absurd h h1
  · rename_i h1
    split at h
    · rename_i h2; exact absurd h h2
    · rename_i h2
      split at h
      · rename_i h3; exact ⟨Decidable.not_not.1 h1, Decidable.not_not.1 h2, h3⟩
      · cases h
def shR (n : Int) (r : Rl) : Rl := ⟨r.sym, r.args.map (· + n), r.to + n⟩
def uniA (a b : Au) : Au := ⟨a.ranks, a.states + b.states, a.rules ++ b.rules.map (shR a.states), a.final ++ b.final.map (· + a.states)⟩
def shP (n : Int) (p : Rl × Value) : Rl × Value := (shR n p.1, p.2)
def shTo (n : Int) (xs : List Int) (j : Nat) : List Int := (xs.take j).map (· + n) ++ xs.drop j
theorem shTo_len (n : Int) (xs : List Int) (j : Nat) : (shTo n xs j).length = xs.length := by
  simp only [shTo, List.length_append, List.length_map, List.length_take, List.length_drop]; omega
theorem shTo_zero (n : Int) (xs : List Int) : shTo n xs 0 = xs := by simp [shTo]
theorem shTo_full (n : Int) (xs : List Int) : shTo n xs xs.length = xs.map (· + n) := by simp [shTo]
theorem shTo_get {n : Int} {xs : List Int} {j : Nat} (hj : j < xs.length) : (shTo n xs j)[j]'(by rw [shTo_len]; exact hj) = xs[j] := by
  have h0 : ((xs.take j).map (· + n)).length = j := by simp; omega
  simp only [shTo]
  rw [List.getElem_append_right (by omega)]
  simp only [h0, Nat.sub_self, List.getElem_drop]
  rfl
theorem shTo_set {n : Int} {xs : List Int} {j : Nat} (hj : j < xs.length) : (shTo n xs j).set j (xs[j] + n) = shTo n xs (j + 1) := by
  have h0 : ((xs.take j).map (· + n)).length = j := by simp; omega
  unfold shTo
  rw [List.set_append_right _ _ (by omega), h0, Nat.sub_self, List.drop_eq_getElem_cons hj, List.set_cons_zero, List.take_succ_eq_append_getElem hj, List.map_append, List.append_assoc]
  rfl
theorem shR_args (n : Int) (r : Rl) : (shR n r).args.length = r.args.length := by simp [shR]
theorem uni_norm (a b : Au) : normA ⟨a.ranks, a.states + b.states, sortO a.rules ++ (sortO b.rules).map (shR a.states), sortI a.final ++ (sortI b.final).map (· + a.states)⟩ = normA (uniA a b) := by
  unfold normA uniA
  have e1 : sortO (sortO a.rules ++ (sortO b.rules).map (shR a.states)) = sortO (a.rules ++ b.rules.map (shR a.states)) := sortO_congr fun x => by
    simp only [List.mem_append, List.mem_map, sortO_mem]
  have e2 : sortI (sortI a.final ++ (sortI b.final).map (· + a.states)) = sortI (a.final ++ b.final.map (· + a.states)) := sortI_congr fun x => by
    simp only [List.mem_append, List.mem_map, sortI_mem]
  dsimp only
  rw [e1, e2]
theorem uniA_ok {a b : Au} (ha : AuOk a) (hb : AuOk b) (hr : a.ranks = b.ranks) (hs : a.states + b.states ≤ 256) (hu : a.rules.length + b.rules.length ≤ 65536) : AuOk (uniA a b) := by
  have sa := ha.st
  have sb := hb.st
  refine ⟨ha.rl, ha.rk, ⟨by show 0 ≤ a.states + b.states; omega, hs⟩, by simpa [uniA] using hu, fun r hr2 => ?_, fun q hq => ?_⟩
  · rcases List.mem_append.1 hr2 with h | h
    · obtain ⟨k1, k2, k3, k4, k5, k6⟩ := ha.ru r h
      exact ⟨k1, k2, k3, fun q hq => ⟨(k4 q hq).1, by have := (k4 q hq).2; show q < a.states + b.states; omega⟩, k5, by show r.to < a.states + b.states; omega⟩
    · obtain ⟨x, hx, rfl⟩ := List.mem_map.1 h
      obtain ⟨k1, k2, k3, k4, k5, k6⟩ := hb.ru x hx
      refine ⟨k1, by show x.sym < (a.ranks.length : Int); rw [hr]; exact k2, by rw [shR_args]; show _ = a.ranks.getD _ 0; rw [hr]; exact k3, fun q hq => ?_, by show 0 ≤ x.to + a.states; omega, by show x.to + a.states < a.states + b.states; omega⟩
      obtain ⟨y, hy, rfl⟩ := List.mem_map.1 hq
      have := k4 y hy
      exact ⟨by show 0 ≤ y + a.states; omega, by show y + a.states < a.states + b.states; omega⟩
  · rcases List.mem_append.1 hq with h | h
    · have := ha.fi q h
      exact ⟨this.1, by show q < a.states + b.states; omega⟩
    · obtain ⟨y, hy, rfl⟩ := List.mem_map.1 h
      have := hb.fi y hy
      exact ⟨by show 0 ≤ y + a.states; omega, by show y + a.states < a.states + b.states; omega⟩
theorem rows_elem {H : View} {a : Option Addr} {n cap : Nat} {ps : List (Rl × Value)} (h : SlAt H (.slice a n cap) ps.length (cellsP ps)) {i : Nat} (hi : i < ps.length) :
    ∃ b off, a = some ⟨b, off, none⟩ ∧ At H b (off + i * 3) (cellRV ps[i]) := by
  obtain ⟨a', cap', e, h3⟩ := h
  cases e
  rcases h3 with ⟨h0, _⟩ | ⟨b, off, rfl, hA⟩
  · omega
  · refine ⟨b, off, rfl, hA.sub fun k v hk => ?_⟩
    have e2 : cellsP ps = cellsP (ps.take i) ++ (cellRV ps[i] ++ cellsP (ps.drop (i + 1))) := by
      conv => lhs; rw [show ps = ps.take i ++ ps[i] :: ps.drop (i + 1) by simp]
      unfold cellsP; rw [List.flatMap_append, List.flatMap_cons]
    have hl : (cellsP (ps.take i)).length = i * 3 := by rw [cellsP_len, List.length_take, Nat.min_eq_left (by omega)]
    have hk3 : k < 3 := by
      have := (List.getElem?_eq_some_iff.1 hk).1
      simpa [cellRV] using this
    rw [e2, List.getElem?_append_right (by omega), hl, show i * 3 + k - i * 3 = k by omega, List.getElem?_append_left (by simpa [cellRV] using hk3)]
    exact hk
theorem shTo_cell {n : Int} {xs : List Int} {j off : Nat} (tail : List Value) (hj : j < xs.length) (ho : off = j * 1) : ((((shTo n xs j).flatMap cellI ++ tail).toArray.toList).drop off).take 1 = [.int .i64 xs[j]] :=
  (flat_get cellI_len (shTo n xs j) tail (i := j) (by rw [shTo_len]; exact hj) ho).trans (congrArg cellI (shTo_get hj))
theorem shTo_put {n : Int} {xs : List Int} {j off : Nat} (tail : List Value) (hj : j < xs.length) (ho : off = j * 1) : putCells ((shTo n xs j).flatMap cellI ++ tail).toArray off [.int .i64 (xs[j] + n)] = ((shTo n xs (j + 1)).flatMap cellI ++ tail).toArray :=
  (flat_put cellI_len (shTo n xs j) tail (i := j) (by rw [shTo_len]; exact hj) (xs[j] + n) ho (v := .int .i64 (xs[j] + n)) rfl).trans (by rw [shTo_set hj])
theorem sortI_small {a : Au} (h : AuOk a) : (sortI a.final).length ≤ 256 := by
  have hs := h.st
  have h1 := length_le_of_subset (xs := sortI a.final) (ys := (List.range a.states.toNat).map fun (i : Nat) => (i : Int)) (sortI_nodup _) fun q hq => by
    have := h.fi q (sortI_mem.1 hq)
    exact List.mem_map.2 ⟨q.toNat, List.mem_range.2 (by omega), by omega⟩
  rw [List.length_map, List.length_range] at h1
  omega
theorem sh_bound {a b : Au} (hoA : AuOk a) (hoB : AuOk b) (hbB : AuB (normA b)) {psB : List (Rl × Value)} (hpsB : psB.map (·.1) = sortO b.rules) : ∀ p ∈ psB.map (shP a.states), RlB p.1 := by
  intro p hp
  have hsA := hoA.st
  have hsB := hoB.st
  obtain ⟨q, hq, rfl⟩ := List.mem_map.1 hp
  have hmem : q.1 ∈ b.rules := sortO_mem.1 (by rw [← hpsB]; exact List.mem_map.2 ⟨_, hq, rfl⟩)
  obtain ⟨k1, k2, k3, k4, k5, k6⟩ := hoB.ru _ hmem
  have hal := hoB.args2 _ hmem
  refine ⟨by rw [show (shP a.states q).1.args.length = q.1.args.length from shR_args _ _]; omega, (hbB.u q.1 (by show q.1 ∈ sortO b.rules; exact sortO_mem.2 hmem)).2.1, by show i64ok (q.1.to + a.states); simp only [i64ok]; omega, fun x hx => ?_⟩
  obtain ⟨y, hy, rfl⟩ := List.mem_map.1 hx
  have := k4 y hy
  show i64ok (y + a.states)
  simp only [i64ok]; omega
theorem repAu_uni {V : View} {a b : Au} {v1 : Value} {wa fa : Option Addr} {wcp fc : Nat} (hoA : AuOk a) (hoB : AuOk b) (hbA : AuB (normA a)) {psA psB : List (Rl × Value)} (hpsA : psA.map (·.1) = sortO a.rules) (hpsB : psB.map (·.1) = sortO b.rules)
    (hr : SI V v1 a.ranks) (hrl : a.ranks.length ≤ 1099511627776) (h1 : SlAt V (.slice wa (psA.length + psB.length) wcp) (psA.length + psB.length) (cellsP (psA ++ psB.map (shP a.states)))) (hA : ∀ p ∈ psA, RVok V p) (hB : ∀ p ∈ psB.map (shP a.states), RVok V p)
    (h2 : SlAt V (.slice fa ((sortI a.final).length + (sortI b.final).length) fc) ((sortI a.final).length + (sortI b.final).length) (ints (sortI a.final ++ (sortI b.final).map (· + a.states)))) (hu : a.rules.length + b.rules.length ≤ 65536) (hfa : a.final.length ≤ 1099511627776) (hf : (sortI a.final).length + (sortI b.final).length ≤ 1099511627776) :
    RepAu V ⟨a.ranks, a.states + b.states, sortO a.rules ++ (sortO b.rules).map (shR a.states), sortI a.final ++ (sortI b.final).map (· + a.states)⟩ v1 (.slice wa (psA.length + psB.length) wcp) (.slice fa ((sortI a.final).length + (sortI b.final).length) fc) := by
  have hsA := hoA.st
  have hsB := hoB.st
  have hps : (psA ++ psB.map (shP a.states)).map (·.1) = sortO a.rules ++ (sortO b.rules).map (shR a.states) := by rw [List.map_append, hpsA, ← hpsB, List.map_map, List.map_map]; rfl
  have hlA := sortO_len a.rules
  have hlB := sortO_len b.rules
  refine ⟨hr, ⟨cellsP (psA ++ psB.map (shP a.states)), ?_, ?_⟩, ⟨?_, ?_⟩, by show i64ok (a.states + b.states); simp only [i64ok]; omega, hrl, ?_, ?_⟩
  · rw [← hps, List.length_map, List.length_append, List.length_map]; exact h1
  · rw [← hps]
    refine repL_rv fun p hp => ?_
    rcases List.mem_append.1 hp with h | h
    · exact hA p h
    · exact hB p h
  · rw [List.length_append, List.length_map]; exact h2
  · intro x hx
    rcases List.mem_append.1 hx with h | h
    · exact hbA.f x h
    · obtain ⟨y, hy, rfl⟩ := List.mem_map.1 h
      have := hoB.fi y (sortI_mem.1 hy)
      show i64ok (y + a.states)
      simp only [i64ok]; omega
  · rw [List.length_append, List.length_map]; omega
  · rw [List.length_append, List.length_map]; exact hf
section rules
variable {P : Program} {n : Nat} {c : Cx} {Q : Exit → Act → World → Prop} {l : KL} {hl : HL} {H : View}
theorem rowsFrom_mid (ti : TypeId) (A B : List (Rl × Value)) (p : Rl × Value) : rowsFrom ti (A ++ p :: B) = rowsFrom ti A ++ row p.2 ti 1 p.1.args.length (ints p.1.args) :: rowsFrom ti B := by simp [rowsFrom]
theorem Ok.takerow {w : World} {ti : TypeId} {A B : List (Rl × Value)} {p : Rl × Value} (h : Ok c w H (many (rowsFrom ti (A ++ p :: B)) :: hl)) : Ok c w H (row p.2 ti 1 p.1.args.length (ints p.1.args) :: many (rowsFrom ti (A ++ B)) :: hl) := by
  have h1 := h.many_out
  rw [rowsFrom_mid] at h1
  have h2 : Ok c w H (rowsFrom ti (A ++ B) ++ (row p.2 ti 1 p.1.args.length (ints p.1.args) :: hl)) := by
    refine h1.perm ?_
    rw [show rowsFrom ti (A ++ B) = rowsFrom ti A ++ rowsFrom ti B by simp [rowsFrom]]
    rw [List.append_assoc, List.append_assoc]
    exact List.Perm.append_left _ (by rw [List.cons_append]; exact List.perm_middle.symm)
  exact h2.many_in.perm (List.Perm.swap _ _ _)
theorem Ok.putrow {w : World} {ti : TypeId} {A B : List (Rl × Value)} {p : Rl × Value} (h : Ok c w H (row p.2 ti 1 p.1.args.length (ints p.1.args) :: many (rowsFrom ti (A ++ B)) :: hl)) : Ok c w H (many (rowsFrom ti (A ++ p :: B)) :: hl) := by
  have h1 : Ok c w H (many (rowsFrom ti (A ++ B)) :: row p.2 ti 1 p.1.args.length (ints p.1.args) :: hl) := h.perm (List.Perm.swap _ _ _)
  have h2 := h1.many_out
  refine Ok.many_in ?_
  rw [rowsFrom_mid]
  refine h2.perm ?_
  rw [show rowsFrom ti (A ++ B) = rowsFrom ti A ++ rowsFrom ti B by simp [rowsFrom]]
  rw [List.append_assoc, List.append_assoc]
  exact List.Perm.append_left _ (by rw [List.cons_append]; exact List.perm_middle)
theorem KC_takerow {code : Code} {ti : TypeId} (A B : List (Rl × Value)) (p : Rl × Value) (h : KC P n c code Q l (row p.2 ti 1 p.1.args.length (ints p.1.args) :: many (rowsFrom ti (A ++ B)) :: hl) H) : KC P n c code Q l (many (rowsFrom ti (A ++ p :: B)) :: hl) H :=
  fun ρ w hm ho => h ρ w hm ho.takerow
theorem KQ_putrow {x : Exit} {ti : TypeId} (A B : List (Rl × Value)) (p : Rl × Value) (h : KQ n c Q x l (many (rowsFrom ti (A ++ p :: B)) :: hl) H) : KQ n c Q x l (row p.2 ti 1 p.1.args.length (ints p.1.args) :: many (rowsFrom ti (A ++ B)) :: hl) H :=
  fun ρ w hm ho => h ρ w hm ho.putrow
theorem KC_pubmany {code : Code} {ti : TypeId} {ps : List (Rl × Value)} (hb : ∀ p ∈ ps, RlB p.1) (h : ∀ H', VLe H H' → (∀ p ∈ ps, RVok H' p) → KC P n c code Q l hl H') : KC P n c code Q l (many (rowsFrom ti ps) :: hl) H := by
  intro ρ w hm ho
  obtain ⟨H', h1, h2, h3⟩ := ho.pub_many hb
  exact h H' h1 h2 ρ w hm h3
theorem KC_shape {code : Code} {v : Value} {e : TypeId} {sz k : Nat} {xs : List Value} (j : Nat) (hj : hl[j]? = some (row v e sz k xs)) (h : (∃ a cap, v = .slice a k cap) → KC P n c code Q l hl H) : KC P n c code Q l hl H :=
  fun ρ w hm ho => h (by obtain ⟨a, cap, e⟩ := row_shape (ho.own _ (List.mem_of_getElem? hj)); exact ⟨a, cap, e⟩) ρ w hm ho
theorem KQ_shape {x : Exit} {v : Value} {e : TypeId} {sz k : Nat} {xs : List Value} (j : Nat) (hj : hl[j]? = some (row v e sz k xs)) (h : (∃ a cap, v = .slice a k cap) → KQ n c Q x l hl H) : KQ n c Q x l hl H :=
  fun ρ w hm ho => h (by obtain ⟨a, cap, e⟩ := row_shape (ho.own _ (List.mem_of_getElem? hj)); exact ⟨a, cap, e⟩) ρ w hm ho
end rules
end Pal

/-
  The product of two automata, in plain Lean. Own work. No program, no statement of the seat.
-/
namespace Pal
open Go Go.Proofs Go.Proofs.X
def prArgs (n : Int) (xs ys : List Int) : List Int := List.zipWith (fun x y => x * n + y) xs ys
def prR (n : Int) (r s : Rl) : Rl := ⟨r.sym, prArgs n r.args s.args, r.to * n + s.to⟩
/-- Rule by rule, as the reference lists them. -/
def prods (n : Int) (rs ss : List Rl) : List Rl := rs.flatMap fun r => (symR ss r.sym).map (prR n r)
/-- Symbol by symbol. -/
def prodQ (n : Int) (A B : List Rl) (q : Int) : List Rl := (symR A q).flatMap fun r => (symR B q).map (prR n r)
def prodK (n : Int) (A B : List Rl) (ks : List Int) : List Rl := ks.flatMap (prodQ n A B)
def finP (n : Int) (F G : List Int) : List Int := F.flatMap fun x => G.map fun y => x * n + y
def intA (a b : Au) : Au := ⟨a.ranks, a.states * b.states, prods b.states a.rules b.rules, finP b.states a.final b.final⟩
theorem symR_mem {rs : List Rl} {q : Int} {r : Rl} : r ∈ symR rs q ↔ r ∈ rs ∧ r.sym = q := by simp [symR]
theorem prods_mem {n : Int} {rs ss : List Rl} {x : Rl} : x ∈ prods n rs ss ↔ ∃ r ∈ rs, ∃ s ∈ ss, s.sym = r.sym ∧ prR n r s = x := by
  simp only [prods, List.mem_flatMap, List.mem_map, symR_mem]
  constructor
  · rintro ⟨r, hr, s, ⟨hs, e⟩, h⟩; exact ⟨r, hr, s, hs, e, h⟩
  · rintro ⟨r, hr, s, hs, e, h⟩; exact ⟨r, hr, s, ⟨hs, e⟩, h⟩
theorem prodK_mem {n : Int} {A B : List Rl} {ks : List Int} (hk : ∀ r ∈ A, r.sym ∈ ks) {x : Rl} : x ∈ prodK n A B ks ↔ x ∈ prods n A B := by
  rw [prods_mem]
  simp only [prodK, prodQ, List.mem_flatMap, List.mem_map, symR_mem]
  constructor
  · rintro ⟨q, _, r, ⟨hr, rfl⟩, s, ⟨hs, e⟩, h⟩; exact ⟨r, hr, s, hs, e, h⟩
  · rintro ⟨r, hr, s, hs, e, h⟩; exact ⟨r.sym, hk r hr, r, ⟨hr, rfl⟩, s, ⟨hs, e⟩, h⟩
theorem finP_mem {n : Int} {F G : List Int} {z : Int} : z ∈ finP n F G ↔ ∃ x ∈ F, ∃ y ∈ G, x * n + y = z := by
  simp [finP]
theorem prods_len (n : Int) (ss : List Rl) : ∀ rs : List Rl, (prods n rs ss).length ≤ rs.length * ss.length
  | [] => by simp [prods]
  | r :: rs => by
    have h1 := prods_len n ss rs
    have h2 : (symR ss r.sym).length ≤ ss.length := List.length_filter_le _ _
    have e : prods n (r :: rs) ss = (symR ss r.sym).map (prR n r) ++ prods n rs ss := rfl
    rw [e, List.length_append, List.length_map, List.length_cons, Nat.succ_mul]
    omega
theorem prodQ_len (n : Int) (A B : List Rl) (q : Int) : (prodQ n A B q).length = (symR A q).length * (symR B q).length := by
  unfold prodQ
  generalize symR A q = X
  induction X with
  | nil => simp
  | cons r X ih => rw [List.flatMap_cons, List.length_append, ih, List.length_map, List.length_cons, Nat.succ_mul]; omega
theorem symR_sum (A : List Rl) : ∀ ks : List Int, ks.Nodup → (ks.map fun q => (symR A q).length).sum ≤ A.length := by
  induction A with
  | nil =>
    intro ks _
    have : (ks.map fun q => (symR [] q).length).sum = 0 := by
      induction ks with
      | nil => rfl
      | cons q ks ih => simp only [List.map_cons, List.sum_cons]; rw [ih (by rename_i hh; exact (List.nodup_cons.1 hh).2)]; rfl
    omega
  | cons r A ih =>
    intro ks hn
    have h := ih ks hn
    have e : ∀ q, (symR (r :: A) q).length = (symR A q).length + if r.sym = q then 1 else 0 := by
      intro q
      unfold symR
      rw [List.filter_cons]
      by_cases hq : r.sym = q
      · simp [hq]
      · simp [hq]
    have h2 : (ks.map fun q => (symR (r :: A) q).length).sum = (ks.map fun q => (symR A q).length).sum + (ks.map fun q => if r.sym = q then 1 else 0).sum := by
      clear h hn ih
      induction ks with
      | nil => rfl
      | cons q ks ih =>
        simp only [List.map_cons, List.sum_cons]
        rw [ih, e q]; omega
    have h3 : ∀ ks : List Int, ks.Nodup → (ks.map fun q => if r.sym = q then 1 else 0).sum ≤ 1 := by
      intro ks
      induction ks with
      | nil => intro _; simp
      | cons q ks ih =>
        intro hn
        obtain ⟨h4, h5⟩ := List.nodup_cons.1 hn
        simp only [List.map_cons, List.sum_cons]
        by_cases hq : r.sym = q
        · have : (ks.map fun q => if r.sym = q then 1 else 0).sum = 0 := by
            clear ih hn h5
            induction ks with
            | nil => rfl
            | cons z ks ih =>
              have hz : r.sym ≠ z := by rintro rfl; exact h4 (by rw [hq]; exact List.mem_cons_self)
              simp only [List.map_cons, List.sum_cons, if_neg hz]
              rw [ih (fun h => h4 (List.mem_cons_of_mem _ h))]
          rw [this, if_pos hq]; omega
        · have := ih h5
          rw [if_neg hq]; omega
    have h4 := h3 ks hn
    rw [h2, List.length_cons]
    omega
theorem prodK_len (n : Int) (A B : List Rl) {ks : List Int} (hn : ks.Nodup) : (prodK n A B ks).length ≤ A.length * B.length := by
  have h1 : (prodK n A B ks).length ≤ (ks.map fun q => (symR A q).length).sum * B.length := by
    unfold prodK
    clear hn
    induction ks with
    | nil => simp
    | cons q ks ih =>
      rw [List.flatMap_cons, List.length_append, prodQ_len, List.map_cons, List.sum_cons, Nat.add_mul]
      have h2 : (symR A q).length * (symR B q).length ≤ (symR A q).length * B.length := Nat.mul_le_mul_left _ (List.length_filter_le _ _)
      omega
  exact Nat.le_trans h1 (Nat.mul_le_mul_right _ (symR_sum A ks hn))
theorem prodK_snoc (n : Int) (A B : List Rl) (ks : List Int) (q : Int) : prodK n A B (ks ++ [q]) = prodK n A B ks ++ prodQ n A B q := by
  simp [prodK]
theorem finP_len (n : Int) (G : List Int) : ∀ F : List Int, (finP n F G).length = F.length * G.length
  | [] => by simp [finP]
  | x :: F => by
    have e : finP n (x :: F) G = (G.map fun y => x * n + y) ++ finP n F G := rfl
    rw [e, List.length_append, List.length_map, finP_len n G F, List.length_cons, Nat.succ_mul]; omega
theorem mul_bound {x y m n : Int} (hx : 0 ≤ x ∧ x < m) (hy : 0 ≤ y ∧ y < n) : 0 ≤ x * n + y ∧ x * n + y < m * n := by
  have h0 : 0 ≤ x * n := Int.mul_nonneg hx.1 (by omega)
  have h1 : (x + 1) * n ≤ m * n := Int.mul_le_mul_of_nonneg_right (by omega) (by omega)
  rw [Int.add_mul, Int.one_mul] at h1
  omega
theorem prArgs_len {n : Int} {xs ys : List Int} (h : xs.length = ys.length) : (prArgs n xs ys).length = xs.length := by
  unfold prArgs; rw [List.length_zipWith]; omega
theorem prArgs_mem {n : Int} : ∀ {xs ys : List Int} {z : Int}, z ∈ prArgs n xs ys → ∃ x ∈ xs, ∃ y ∈ ys, x * n + y = z
  | [], _, z, h => by simp [prArgs] at h
  | _ :: _, [], z, h => by simp [prArgs] at h
  | x :: xs, y :: ys, z, h => by
    have h' : z = x * n + y ∨ z ∈ prArgs n xs ys := by
      have : prArgs n (x :: xs) (y :: ys) = (x * n + y) :: prArgs n xs ys := rfl
      rw [this] at h; exact List.mem_cons.1 h
    rcases h' with rfl | h'
    · exact ⟨x, List.mem_cons_self, y, List.mem_cons_self, rfl⟩
    · obtain ⟨x', hx, y', hy, e⟩ := prArgs_mem h'
      exact ⟨x', List.mem_cons_of_mem _ hx, y', List.mem_cons_of_mem _ hy, e⟩
theorem sameRank {a b : Au} (ha : AuOk a) (hb : AuOk b) (hr : a.ranks = b.ranks) {r s : Rl} (h1 : r ∈ a.rules) (h2 : s ∈ b.rules) (e : s.sym = r.sym) : r.args.length = s.args.length := by
  have k1 := (ha.ru r h1).2.2.1
  have k2 := (hb.ru s h2).2.2.1
  rw [e, ← hr] at k2
  omega
theorem intA_ok {a b : Au} (ha : AuOk a) (hb : AuOk b) (hr : a.ranks = b.ranks) (hs : a.states * b.states ≤ 256) (hu : a.rules.length * b.rules.length ≤ 65536) : AuOk (intA a b) := by
  refine ⟨ha.rl, ha.rk, ⟨Int.mul_nonneg ha.st.1 hb.st.1, hs⟩, Nat.le_trans (prods_len _ _ _) hu, fun r h => ?_, fun q hq => ?_⟩
  · obtain ⟨x, hx, y, hy, e, rfl⟩ := prods_mem.1 h
    obtain ⟨k1, k2, k3, k4, k5, k6⟩ := ha.ru x hx
    obtain ⟨l1, l2, l3, l4, l5, l6⟩ := hb.ru y hy
    refine ⟨k1, k2, ?_, fun q hq => ?_, (mul_bound ⟨k5, k6⟩ ⟨l5, l6⟩).1, (mul_bound ⟨k5, k6⟩ ⟨l5, l6⟩).2⟩
    · show ((prArgs b.states x.args y.args).length : Int) = _
      rw [prArgs_len (sameRank ha hb hr hx hy e)]; exact k3
    · obtain ⟨u, hu, v, hv, rfl⟩ := prArgs_mem hq
      exact mul_bound (k4 u hu) (l4 v hv)
  · obtain ⟨u, hu, v, hv, rfl⟩ := finP_mem.1 hq
    exact mul_bound (ha.fi u hu) (hb.fi v hv)
/-- What the library puts together, symbol by symbol over the sorted rules. -/
theorem int_norm (a b : Au) {ks : List Int} (hk : ∀ r ∈ sortO a.rules, r.sym ∈ ks) : normA ⟨a.ranks, a.states * b.states, prodK b.states (sortO a.rules) (sortO b.rules) ks, finP b.states a.final b.final⟩ = normA (intA a b) := by
  have e1 : sortO (prodK b.states (sortO a.rules) (sortO b.rules) ks) = sortO (prods b.states a.rules b.rules) := sortO_congr fun x => by
    rw [prodK_mem hk, prods_mem, prods_mem]
    simp only [sortO_mem]
  unfold normA intA
  dsimp only
  rw [e1]
/-! ### As the reference goes through them -/
def prodJ (n : Int) (r : Rl) (ss : List Rl) : List Rl := (symR ss r.sym).map (prR n r)
theorem prods_snoc (n : Int) {rs ss : List Rl} {i : Nat} (hi : i < rs.length) : prods n (rs.take (i + 1)) ss = prods n (rs.take i) ss ++ prodJ n rs[i] ss := by
  unfold prods prodJ
  rw [List.take_succ_eq_append_getElem hi, List.flatMap_append]
  simp
theorem prodJ_snoc (n : Int) (r : Rl) {ss : List Rl} {j : Nat} (hj : j < ss.length) : prodJ n r (ss.take (j + 1)) = prodJ n r (ss.take j) ++ if ss[j].sym = r.sym then [prR n r ss[j]] else [] := by
  unfold prodJ
  rw [symR_snoc hj, List.map_append]
  by_cases h : ss[j].sym = r.sym
  · rw [if_pos h, if_pos h]; rfl
  · rw [if_neg h, if_neg h]; rfl
theorem prodJ_len (n : Int) (r : Rl) (ss : List Rl) : (prodJ n r ss).length ≤ ss.length := by
  unfold prodJ; rw [List.length_map]; exact List.length_filter_le _ _
def finT (F G : List Int) (n : Int) (s t : Nat) : List Int := ((List.range t).filter fun (y : Nat) => decide ((s : Int) ∈ F ∧ (y : Int) ∈ G)).map fun (y : Nat) => (s : Int) * n + (y : Int)
def finB (F G : List Int) (n : Int) (m s : Nat) : List Int := (List.range s).flatMap fun x => finT F G n x m
theorem finT_succ (F G : List Int) (n : Int) (s t : Nat) : finT F G n s (t + 1) = finT F G n s t ++ if (s : Int) ∈ F ∧ (t : Int) ∈ G then [(s : Int) * n + (t : Int)] else [] := by
  unfold finT
  rw [List.range_succ, List.filter_append, List.map_append]
  by_cases h : (s : Int) ∈ F ∧ (t : Int) ∈ G
  · rw [if_pos h, List.filter_cons, decide_eq_true h]; rfl
  · rw [if_neg h, List.filter_cons, decide_eq_false h]; rfl
theorem finB_succ (F G : List Int) (n : Int) (m s : Nat) : finB F G n m (s + 1) = finB F G n m s ++ finT F G n s m := by
  simp [finB, List.range_succ]
theorem finT_len (F G : List Int) (n : Int) (s t : Nat) : (finT F G n s t).length ≤ t := by
  unfold finT; rw [List.length_map]; exact Nat.le_trans (List.length_filter_le _ _) (by simp)
theorem finB_len (F G : List Int) (n : Int) (m : Nat) : ∀ s, (finB F G n m s).length ≤ s * m
  | 0 => by simp [finB]
  | s + 1 => by
    rw [finB_succ, List.length_append, Nat.succ_mul]
    exact Nat.add_le_add (finB_len F G n m s) (finT_len F G n s m)
theorem finT_mem {F G : List Int} {n z : Int} {s t : Nat} : z ∈ finT F G n s t ↔ (s : Int) ∈ F ∧ ∃ y : Nat, y < t ∧ (y : Int) ∈ G ∧ (s : Int) * n + (y : Int) = z := by
  simp only [finT, List.mem_map, List.mem_filter, List.mem_range, decide_eq_true_eq]
  constructor
  · rintro ⟨y, ⟨h1, h2, h3⟩, h4⟩; exact ⟨h2, y, h1, h3, h4⟩
  · rintro ⟨h2, y, h1, h3, h4⟩; exact ⟨y, ⟨h1, h2, h3⟩, h4⟩
theorem finB_mem {F G : List Int} {n z : Int} {m s : Nat} : z ∈ finB F G n m s ↔ ∃ x : Nat, x < s ∧ (x : Int) ∈ F ∧ ∃ y : Nat, y < m ∧ (y : Int) ∈ G ∧ (x : Int) * n + (y : Int) = z := by
  simp only [finB, List.mem_flatMap, List.mem_range, finT_mem]
def botA (a b : Au) : Au := ⟨a.ranks, a.states * b.states, prods b.states a.rules b.rules, finB a.final b.final b.states b.states.toNat a.states.toNat⟩
theorem bot_fin {a b : Au} (ha : AuOk a) (hb : AuOk b) (z : Int) : z ∈ finB a.final b.final b.states b.states.toNat a.states.toNat ↔ z ∈ finP b.states a.final b.final := by
  rw [finB_mem, finP_mem]
  constructor
  · rintro ⟨x, _, hx, y, _, hy, e⟩; exact ⟨x, hx, y, hy, e⟩
  · rintro ⟨x, hx, y, hy, e⟩
    have h1 := ha.fi x hx
    have h2 := hb.fi y hy
    exact ⟨x.toNat, by omega, by rw [Int.toNat_of_nonneg h1.1]; exact hx, y.toNat, by omega, by rw [Int.toNat_of_nonneg h2.1]; exact hy, by rw [Int.toNat_of_nonneg h1.1, Int.toNat_of_nonneg h2.1]; exact e⟩
theorem botA_ok {a b : Au} (ha : AuOk a) (hb : AuOk b) (hr : a.ranks = b.ranks) (hs : a.states * b.states ≤ 256) (hu : a.rules.length * b.rules.length ≤ 65536) : AuOk (botA a b) := by
  have h := intA_ok ha hb hr hs hu
  exact ⟨h.rl, h.rk, h.st, h.ul, h.ru, fun q hq => h.fi q ((bot_fin ha hb q).1 hq)⟩
theorem bot_norm {a b : Au} (ha : AuOk a) (hb : AuOk b) : normA (botA a b) = normA (intA a b) := by
  unfold normA botA intA
  dsimp only
  rw [sortI_congr (bot_fin ha hb)]
theorem prArgs_snoc {n : Int} {xs ys : List Int} {k : Nat} (h1 : k < xs.length) (h2 : k < ys.length) : prArgs n (xs.take (k + 1)) (ys.take (k + 1)) = prArgs n (xs.take k) (ys.take k) ++ [xs[k] * n + ys[k]] := by
  unfold prArgs
  rw [List.take_succ_eq_append_getElem h1, List.take_succ_eq_append_getElem h2, List.zipWith_append (by simp; omega)]
  rfl
/-! ### Over the books -/
theorem keysAt_nodup {kvs : KVs} {seen : List Nat} (hk : (kvs.map (·.1)).Nodup) (hn : seen.Nodup) (hlt : ∀ i ∈ seen, i < kvs.length) : (keysAt kvs seen).Nodup := by
  unfold keysAt
  rw [List.Nodup, List.pairwise_map]
  refine List.Pairwise.imp_of_mem (fun {a b} ha hb hab e => ?_) hn
  have h1 := hlt a ha
  have h2 := hlt b hb
  have key : ∀ i j, i < j → (hj : j < kvs.length) → (kvs.getD i (0, nilS)).1 ≠ (kvs.getD j (0, nilS)).1 := fun i j hij hj e => by
    have hi : i < kvs.length := by omega
    have h3 := List.pairwise_iff_getElem.1 hk i j (by simpa using hi) (by simpa using hj) hij
    apply h3
    simp only [List.getElem_map]
    simpa [List.getD, hi, hj] using e
  rcases Nat.lt_or_gt_of_ne hab with h | h
  · exact key a b h h2 e
  · exact key b a h h1 e.symm
theorem book_at {H : View} {kvs : KVs} {rs : List Rl} (hn : (kvs.map (·.1)).Nodup) (hr : ∀ q, RulesAt H ((lookI kvs q).getD nilS) (symR rs q)) {i : Nat} {q : Int} {u : Value} (h : kvs[i]? = some (q, u)) : RulesAt H u (symR rs q) := by
  have h1 := lookI_mem hn (List.mem_of_getElem? h)
  have h2 := hr q
  rw [h1] at h2
  exact h2
theorem book_keys {H : View} {kvs : KVs} {rs : List Rl} (hr : ∀ q, RulesAt H ((lookI kvs q).getD nilS) (symR rs q)) {seen : List Nat} (hn : seen.Nodup) (hlt : ∀ i ∈ seen, i < kvs.length) (hall : ∀ i, i < kvs.length → i ∈ seen) : ∀ r ∈ rs, r.sym ∈ keysAt kvs seen := by
  intro r h
  have hp := keysAt_all hn hlt hall
  rw [hp.mem_iff, ← lookI_isSome]
  cases hl : lookI kvs r.sym with
  | some v => rfl
  | none =>
    have h2 := hr r.sym
    rw [hl] at h2
    obtain ⟨a, c, e⟩ := h2.shape
    have h3 : (symR rs r.sym).length = 0 := by
      have : (Value.slice none 0 0) = .slice a (symR rs r.sym).length c := e
      injection this with _ h4 _
      exact h4.symm
    have h4 : r ∈ symR rs r.sym := symR_mem.2 ⟨h, rfl⟩
    rw [List.eq_nil_of_length_eq_zero h3] at h4
    cases h4
/-- Up to the i-th rule of one symbol's, whole. -/
def prodU (n : Int) (X Y : List Rl) (i : Nat) : List Rl := (X.take i).flatMap fun r => Y.map (prR n r)
theorem prodU_succ (n : Int) {X Y : List Rl} {i : Nat} (hi : i < X.length) : prodU n X Y (i + 1) = prodU n X Y i ++ Y.map (prR n X[i]) := by
  unfold prodU
  rw [List.take_succ_eq_append_getElem hi, List.flatMap_append]
  simp
theorem prodU_all (n : Int) (A B : List Rl) (q : Int) : prodU n (symR A q) (symR B q) (symR A q).length = prodQ n A B q := by
  unfold prodU prodQ; rw [List.take_length]
theorem prodU_len (n : Int) (X Y : List Rl) : ∀ i, i ≤ X.length → (prodU n X Y i).length = i * Y.length
  | 0, _ => by simp [prodU]
  | i + 1, h => by rw [prodU_succ n (by omega), List.length_append, prodU_len n X Y i (by omega), List.length_map, Nat.succ_mul]
theorem prodK_fit {n : Int} {A B : List Rl} {ks : List Int} {q : Int} (hn : (ks ++ [q]).Nodup) (hb : A.length * B.length ≤ 65536) : (prodK n A B ks).length + (symR A q).length * (symR B q).length ≤ 65536 := by
  have h := prodK_len n A B hn
  rw [prodK_snoc, List.length_append, prodQ_len] at h
  omega
theorem part_fit {i x y j : Nat} (hi : i < x) (hj : j < y) : i * y + j + 1 ≤ x * y := by
  have h : (i + 1) * y ≤ x * y := Nat.mul_le_mul_right _ hi
  rw [Nat.add_mul, Nat.one_mul] at h
  omega
def finX (n x : Int) (G : List Int) (k : Nat) : List Int := (G.take k).map fun y => x * n + y
theorem finP_snoc (n : Int) {F G : List Int} {i : Nat} (hi : i < F.length) : finP n (F.take (i + 1)) G = finP n (F.take i) G ++ finX n F[i] G G.length := by
  unfold finP finX
  rw [List.take_succ_eq_append_getElem hi, List.flatMap_append, List.take_length]
  simp
theorem finX_succ (n x : Int) {G : List Int} {k : Nat} (hk : k < G.length) : finX n x G (k + 1) = finX n x G k ++ [x * n + G[k]] := by
  unfold finX
  rw [List.take_succ_eq_append_getElem hk, List.map_append]
  rfl
theorem finX_len (n x : Int) {G : List Int} {k : Nat} (hk : k ≤ G.length) : (finX n x G k).length = k := by
  unfold finX; rw [List.length_map, List.length_take]; omega
end Pal
