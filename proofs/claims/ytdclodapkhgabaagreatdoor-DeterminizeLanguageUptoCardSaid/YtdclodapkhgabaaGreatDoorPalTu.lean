/-
  Library texts of the proof, put together. Own work. No statement of the seat is proved here.
-/
import Derived.Test.YtdclodapkhgabaaGreatDoorPalRu
import Derived.Test.YtdclodapkhgabaaGreatDoorPalO
/-
  The values of the small automaton that a law's own test runs on, and what the laws of reachable states and of runs come to: the
  library's answers and the reference's, told over the same sorted rules, are alike. Plain Lean, no program. Own work.
-/
namespace Go.Proofs.X
open Go Pal Go.Proofs
def kT : Tr := .node 1 [.node 0 [], .node 0 []]
def kLeaf : Tr := .node 0 []
theorem kv_ask : askErr knownA kT = 0 := by decide +kernel
theorem kv_best : bestF (sortO knownA.rules) kT knownA.final = some [0, 1, 1] := by decide +kernel
theorem kv_cnt : cntA knownA kT (sortI knownA.final) = 1 := by decide +kernel
theorem kv_acc : accA knownA kT = true := by decide +kernel
theorem kv_leaf : accA knownA kLeaf = true := by decide +kernel
theorem repT_leaf (H : View) (s : Int) (hs : i64ok s) : RepT H (.node s []) [.int .i64 s, .slice none 0 0] :=
  .mk s [] none 0 0 0 (fun _ => []) hs (fun h => absurd rfl h) (fun i hi => absurd hi (Nat.not_lt_zero i)) (fun i hi => absurd hi (Nat.not_lt_zero i))
theorem i64_small {x : Int} (h : 0 ≤ x ∧ x ≤ 1000) : i64ok x := by simp only [i64ok]; omega
theorem repT_kT (H : View) (b : Nat) {c : Array Value} {T : TypeId} {fz : Nat × Nat} (hb : H b = some (.cells c T fz)) (hc : c.toList = [.int .i64 0, .slice none 0 0, .int .i64 0, .slice none 0 0]) : RepT H kT [.int .i64 1, slc 2 b] :=
  .mk 1 [kLeaf, kLeaf] (some ⟨b, 0, none⟩) 2 b 0 (fun _ => [.int .i64 0, .slice none 0 0]) (i64_small (by decide)) (fun _ => rfl)
    (fun i hi => ⟨rfl, c, T, fz, hb, fun j v hj => by
      have hi : i < 2 := hi
      rw [show c[(0 + i * 2) + j]? = c.toList[(0 + i * 2) + j]? by simp, hc]
      obtain rfl | rfl : i = 0 ∨ i = 1 := by omega
      · match j, hj with
        | 0, hj => exact hj
        | 1, hj => exact hj
      · match j, hj with
        | 0, hj => exact hj
        | 1, hj => exact hj⟩)
    (fun i hi => by
      have hi : i < 2 := hi
      obtain rfl | rfl : i = 0 ∨ i = 1 := by omega
      · exact repT_leaf H 0 (i64_small (by decide))
      · exact repT_leaf H 0 (i64_small (by decide)))
theorem accA_is {a : Au} {t : Tr} (h : askErr a t = 0) : accA a t = decide (0 < (accR (sortO a.rules) t a.final).length) := by
  unfold accA
  rw [decide_eq_true h, Bool.true_and]
  by_cases h1 : a.final.any (fun q => decide (0 < t.cnt (sortO a.rules) q)) = true
  · rw [h1]
    exact (decide_eq_true ((accR_pos _ _ _).2 h1)).symm
  · rw [Bool.not_eq_true _ |>.mp h1]
    exact (decide_eq_false fun h2 => h1 ((accR_pos _ _ _).1 h2)).symm
theorem accA_no {a : Au} {t : Tr} (h : askErr a t ≠ 0) : accA a t = false := by
  unfold accA
  rw [decide_eq_false h, Bool.false_and]
theorem foldBest_some : ∀ (l : List (List Int)) (o : Option (List Int)), (l.foldl bestO o).isSome = (o.isSome || decide (0 < l.length))
  | [], o => by simp
  | x :: l, o => by
    rw [List.foldl_cons, foldBest_some l]
    have : (bestO o x).isSome = true := by cases o <;> simp only [bestO] <;> first | rfl | (split <;> rfl)
    rw [this]; simp
theorem best_some (rs : List Rl) (t : Tr) (F : List Int) : (bestF rs t F).isSome = decide (0 < (accR rs t F).length) := by
  rw [bestF_eq, foldBest_some]; rfl
theorem BestW.si {H : View} {w : Value} {o : Option (List Int)} (h : BestW H w o) : SI H w (o.getD []) ∧ (o.getD []).length ≤ 1048577 := by
  rcases h with ⟨rfl, rfl⟩ | ⟨x, a, cp, rfl, rfl, h3, h4⟩
  · exact ⟨⟨⟨none, 0, rfl, .inl ⟨rfl, rfl⟩⟩, fun x hx => by cases hx⟩, Nat.zero_le _⟩
  · exact ⟨h3, h4⟩
theorem accR_item {rs : List Rl} {t : Tr} {F x : List Int} (h : x ∈ accR rs t F) : x.length ≤ t.size :=
  Nat.le_of_eq (Tr.ways_len rs t x (List.mem_filter.1 h).1)
section rules
variable {P : Program} {n : Nat} {c : Cx} {l : KL} {hl : HL} {H : View} {v : Value} {ty : TypeId} {pos : String} {aft : Array Edge} {g : Option (Nat × Bool)} {ol : List Oper} {keep : HL} {fin : Bool} {T : ST} {R : List Nat} {i : Nat}
/-- A store of a whole block's cells in the chain. -/
theorem D_storeW {t : TypeId} {x y : Operand} {agg : Bool} {sz b : Nat} {cs cs' : Array Value} {E : TypeId} (hT : Ty P t agg sz) (j : Nat) (hi : nthO ol i = some ⟨none, .store t x y, ty, pos, aft, g⟩) (hw : wlO ol l g = some true)
    (hx : ev l x = some (.pointer (some ⟨b, 0, none⟩))) (hy : ev l y = some v) (hj : hl[j]? = some (blk b (.cells cs E (0, 0)))) (hkp : memAll keep (hl.eraseIdx j)) (hv : v.cells = cs') (hsz : cs'.size = sz) (hcs : cs.size = sz) (h1 : cs'.toList.all Value.oneCell' = true)
    (h : KD P n ol.toArray keep fin T R l (blk b (.cells cs' E (0, 0)) :: hl.eraseIdx j) H) : KD P n ol.toArray keep fin T (i :: R) l hl H := by
  subst hv
  refine D_store hT j hi hw hx hy hj hkp (by simpa using hsz) (Nat.ble_eq.mpr (by simp [hsz, hcs])) h1 ?_
  rw [putCells_all (by rw [hsz, hcs])]
  exact h
end rules
end Go.Proofs.X

/-
  Automata up to order and duplicates: sorted forms of sorted forms, the reference's Same, and the automaton with nothing in it that stands beside
  an error. Plain Lean, no program. Own work.
-/
namespace Go.Proofs.X
open Go Pal Go.Proofs
deriving instance DecidableEq for Rl
def zeroA : Au := ⟨[], 0, [], []⟩
def errAu (e : Int) (b : Au) : Au := if e = 0 then b else zeroA
theorem errAu_ok {e : Int} {b : Au} (h : e = 0) : errAu e b = b := if_pos h
theorem errAu_no {e : Int} {b : Au} (h : e ≠ 0) : errAu e b = zeroA := if_neg h
theorem eqP_is (p q : Rl × Value) : eqP p q = decide (p.1 = q.1) := by
  unfold eqP
  exact decide_eq_decide.2 ordR_eq
theorem sameM_dec (a b : Au) : sameM a b = decide (a.ranks = b.ranks ∧ a.states = b.states ∧ sortI a.final = sortI b.final ∧ sortO a.rules = sortO b.rules) := by
  by_cases h : a.ranks = b.ranks ∧ a.states = b.states ∧ sortI a.final = sortI b.final ∧ sortO a.rules = sortO b.rules
  · rw [decide_eq_true h]; exact (sameM_iff a b).2 h
  · rw [decide_eq_false h]
    cases h2 : sameM a b with
    | false => rfl
    | true => exact absurd ((sameM_iff a b).1 h2) h
theorem sortO_idem (rs : List Rl) : sortO (sortO rs) = sortO rs := sortO_congr fun _ => sortO_mem
theorem sortI_idem (xs : List Int) : sortI (sortI xs) = sortI xs := sortI_congr fun _ => sortI_mem
theorem norm_idem (a : Au) : normA (normA a) = normA a := by
  unfold normA
  simp only [sortO_idem, sortI_idem]
theorem same_norm (a : Au) : sameM (normA a) a = true := (sameM_iff _ _).2 ⟨rfl, rfl, sortI_idem _, sortO_idem _⟩
theorem same_of_norm {a b : Au} (h : normA a = normA b) : sameM a b = true := by
  unfold normA at h
  injection h with h1 h2 h4 h3
  exact (sameM_iff _ _).2 ⟨h1, h2, h3, h4⟩
theorem norm_of_same {a b : Au} (h : sameM a b = true) : normA a = normA b := by
  obtain ⟨h1, h2, h3, h4⟩ := (sameM_iff _ _).1 h
  unfold normA
  rw [h1, h2, h3, h4]
theorem _root_.Pal.AuOk.args2 {a : Au} (h : AuOk a) : ∀ r ∈ a.rules, r.args.length ≤ 2 := fun r hr => by
  obtain ⟨h1, h2, h3, _⟩ := h.ru r hr
  have hlt : r.sym.toNat < a.ranks.length := by omega
  have h4 := (h.rk r.sym.toNat hlt).2
  have h5 : a.ranks.getD r.sym.toNat 0 = a.ranks[r.sym.toNat] := by simp [List.getD, hlt]
  omega
end Go.Proofs.X

/-
  The image and the inverse image of an automaton under a mapping of symbols, in plain Lean, with the rules that a walk over a row of rules
  needs that is changed in place. Own work. No statement of the seat is proved here.
-/
namespace Pal
open Go Go.Proofs Go.Proofs.X
def turnErr (a : Au) (rk : List Int) : Int := if auErr a ≠ 0 then auErr a else ranksErr rk
def relErr (a : Au) (l rk : List Int) : Int := if turnErr a rk ≠ 0 then turnErr a rk else if mapsM l a.ranks rk = true then 0 else 3
def invErr (a : Au) (l rk : List Int) : Int := if turnErr a rk ≠ 0 then turnErr a rk else if mapsM l rk a.ranks = true then 0 else 3
def imgR (l : List Int) (r : Rl) : Rl := ⟨l.getD r.sym.toNat 0, r.args, r.to⟩
def imgA (a : Au) (l rk : List Int) : Au := ⟨rk, a.states, a.rules.map (imgR l), a.final⟩
def backS (l : List Int) (rs : List Rl) (s : Nat) : List Rl := (rs.filter fun r => decide (r.sym = l.getD s 0)).map fun r => ⟨(s : Int), r.args, r.to⟩
def backR (l : List Int) (rs : List Rl) (n : Nat) : List Rl := (List.range n).flatMap (backS l rs)
def backA (a : Au) (l rk : List Int) : Au := ⟨rk, a.states, backR l a.rules l.length, a.final⟩
theorem backR_succ (l : List Int) (rs : List Rl) (n : Nat) : backR l rs (n + 1) = backR l rs n ++ backS l rs n := by
  simp [backR, List.range_succ]
theorem backS_snoc {l : List Int} {rs : List Rl} {s k : Nat} (hk : k < rs.length) : backS l (rs.take (k + 1)) s = backS l (rs.take k) s ++ if rs[k].sym = l.getD s 0 then [⟨(s : Int), rs[k].args, rs[k].to⟩] else [] := by
  unfold backS
  rw [List.take_succ_eq_append_getElem hk, List.filter_append, List.map_append]
  congr 1
  by_cases h : rs[k].sym = l.getD s 0
  · rw [if_pos h, List.filter_cons, decide_eq_true h]; rfl
  · rw [if_neg h, List.filter_cons, decide_eq_false h]; rfl
theorem backS_len (l : List Int) (rs : List Rl) (s : Nat) : (backS l rs s).length ≤ rs.length := by
  unfold backS; rw [List.length_map]; exact List.length_filter_le _ _
theorem backR_len (l : List Int) (rs : List Rl) : ∀ n, (backR l rs n).length ≤ n * rs.length
  | 0 => by simp [backR]
  | n + 1 => by
    rw [backR_succ, List.length_append, Nat.succ_mul]
    exact Nat.add_le_add (backR_len l rs n) (backS_len l rs n)
theorem backS_mem {l : List Int} {rs : List Rl} {s : Nat} {r : Rl} : r ∈ backS l rs s ↔ r.sym = (s : Int) ∧ ⟨l.getD s 0, r.args, r.to⟩ ∈ rs := by
  simp only [backS, List.mem_map, List.mem_filter, decide_eq_true_eq]
  constructor
  · rintro ⟨x, ⟨h1, h2⟩, rfl⟩
    refine ⟨rfl, ?_⟩
    have : x = ⟨l.getD s 0, x.args, x.to⟩ := by rw [← h2]
    exact this ▸ h1
  · rintro ⟨h1, h2⟩
    exact ⟨_, ⟨h2, rfl⟩, by rw [← h1]⟩
theorem backR_mem {l : List Int} {rs : List Rl} {n : Nat} {r : Rl} : r ∈ backR l rs n ↔ ∃ s, s < n ∧ r.sym = (s : Int) ∧ ⟨l.getD s 0, r.args, r.to⟩ ∈ rs := by
  simp only [backR, List.mem_flatMap, List.mem_range, backS_mem]
theorem backR_sort (l : List Int) (rs : List Rl) (n : Nat) : sortO (backR l (sortO rs) n) = sortO (backR l rs n) :=
  sortO_congr fun x => by simp only [backR_mem, sortO_mem]
theorem imgA_ok {a : Au} {l rk : List Int} (h : AuOk a) (hr : ranksErr rk = 0) (hm : mapsM l a.ranks rk = true) : AuOk (imgA a l rk) := by
  obtain ⟨h1, h2⟩ := mapsM_iff.1 hm
  obtain ⟨r1, r2⟩ := ranksErr_ok hr
  refine ⟨r1, r2, h.st, by simpa [imgA] using h.ul, fun r hr => ?_, h.fi⟩
  obtain ⟨q, hq, rfl⟩ := List.mem_map.1 hr
  obtain ⟨k1, k2, k3, k4, k5⟩ := h.ru q hq
  have hlt : q.sym.toNat < l.length := by omega
  have e := h2 q.sym.toNat hlt (by omega)
  have e0 : l.getD q.sym.toNat 0 = l[q.sym.toNat] := by simp [List.getD, hlt]
  refine ⟨?_, ?_, ?_, k4, k5⟩
  · show 0 ≤ l.getD q.sym.toNat 0
    rw [e0]; exact e.1.1
  · show l.getD q.sym.toNat 0 < _
    rw [e0]; exact e.1.2
  · show (q.args.length : Int) = rk.getD (l.getD q.sym.toNat 0).toNat 0
    have hlt2 : q.sym.toNat < a.ranks.length := by omega
    rw [e0, e.2, k3]
    simp [List.getD, hlt2]
theorem backA_ok {a : Au} {l rk : List Int} (h : AuOk a) (hr : ranksErr rk = 0) (hm : mapsM l rk a.ranks = true) (hb : l.length * a.rules.length ≤ 65536) : AuOk (backA a l rk) := by
  obtain ⟨h1, h2⟩ := mapsM_iff.1 hm
  obtain ⟨r1, r2⟩ := ranksErr_ok hr
  refine ⟨r1, r2, h.st, Nat.le_trans (backR_len _ _ _) hb, fun r hr => ?_, h.fi⟩
  obtain ⟨s, hs, e1, hq⟩ := backR_mem.1 hr
  obtain ⟨k1, k2, k3, k4, k5⟩ := h.ru _ hq
  have e := h2 s hs (by omega)
  have e0 : l.getD s 0 = l[s] := by simp [List.getD, hs]
  refine ⟨by omega, ?_, ?_, k4, k5⟩
  · show r.sym < (rk.length : Int)
    omega
  · show (r.args.length : Int) = rk.getD r.sym.toNat 0
    rw [e1]
    have hlt : s < rk.length := by omega
    have e3 := k3
    dsimp only at e3
    rw [e3, e0, e.2]
    simp [List.getD, hlt]
theorem backS_symR (l : List Int) (rs : List Rl) (s : Nat) : backS l rs s = (symR rs (l.getD s 0)).map fun r => ⟨(s : Int), r.args, r.to⟩ := rfl
theorem backR_step (l : List Int) (rs : List Rl) (k : Nat) : (backR l rs (k + 1)).length = (backR l rs k).length + (symR rs (l.getD k 0)).length := by
  rw [backR_succ, List.length_append, backS_symR, List.length_map]
theorem backR_fit {l : List Int} {a : Au} (hb : l.length * a.rules.length ≤ 65536) {k : Nat} (hk : k ≤ l.length) : (backR l (sortO a.rules) k).length ≤ 65536 :=
  Nat.le_trans (backR_len _ _ _) (Nat.le_trans (Nat.mul_le_mul hk (sortO_len _)) hb)
theorem back_norm (a : Au) (l rk : List Int) : normA ⟨rk, a.states, backR l (sortO a.rules) l.length, a.final⟩ = normA (backA a l rk) := by
  unfold normA backA
  simp only [backR_sort]
/-! ### A row of rules changed in place -/
def imgP (l : List Int) (p : Rl × Value) : Rl × Value := (imgR l p.1, p.2)
def qsAt (l : List Int) (ps : List (Rl × Value)) (k : Nat) : List (Rl × Value) := (ps.take k).map (imgP l) ++ ps.drop k
theorem qsAt_len (l : List Int) (ps : List (Rl × Value)) (k : Nat) : (qsAt l ps k).length = ps.length := by
  simp only [qsAt, List.length_append, List.length_map, List.length_take, List.length_drop]; omega
theorem qsAt_zero (l : List Int) (ps : List (Rl × Value)) : qsAt l ps 0 = ps := by simp [qsAt]
theorem qsAt_full (l : List Int) (ps : List (Rl × Value)) : qsAt l ps ps.length = ps.map (imgP l) := by simp [qsAt]
theorem qsAt_get {l : List Int} {ps : List (Rl × Value)} {k : Nat} (hk : k < ps.length) : (qsAt l ps k)[k]'(by rw [qsAt_len]; exact hk) = ps[k] := by
  have h0 : ((ps.take k).map (imgP l)).length = k := by simp; omega
  simp only [qsAt]
  rw [List.getElem_append_right (by omega)]
  simp only [h0, Nat.sub_self, List.getElem_drop]
  rfl
theorem qsAt_set {l : List Int} {ps : List (Rl × Value)} {k : Nat} (hk : k < ps.length) : (qsAt l ps k).set k (imgP l ps[k]) = qsAt l ps (k + 1) := by
  have h0 : ((ps.take k).map (imgP l)).length = k := by simp; omega
  unfold qsAt
  rw [List.set_append_right _ _ (by omega), h0, Nat.sub_self, List.drop_eq_getElem_cons hk, List.set_cons_zero, List.take_succ_eq_append_getElem hk, List.map_append, List.append_assoc]
  rfl
theorem put_sym (qs : List (Rl × Value)) (tail : List Value) {k off : Nat} (hk : k < qs.length) (ho : off = k * 3) (x : Int) :
    putCells (cellsP qs ++ tail).toArray off [.int .i64 x] = (cellsP (qs.set k (⟨x, qs[k].1.args, qs[k].1.to⟩, qs[k].2)) ++ tail).toArray := by
  subst ho
  unfold putCells putL
  congr 1
  have e : qs = qs.take k ++ qs[k] :: qs.drop (k + 1) := by simp
  have e2 : qs.set k (⟨x, qs[k].1.args, qs[k].1.to⟩, qs[k].2) = qs.take k ++ (⟨x, qs[k].1.args, qs[k].1.to⟩, qs[k].2) :: qs.drop (k + 1) := List.set_eq_take_append_cons_drop .. |>.trans (by rw [if_pos hk])
  have hl : (cellsP (qs.take k)).length = k * 3 := by rw [cellsP_len, List.length_take, Nat.min_eq_left (by omega)]
  have h2 : cellsP qs ++ tail = cellsP (qs.take k) ++ (.int .i64 qs[k].1.sym :: ([qs[k].2, .int .i64 qs[k].1.to] ++ (cellsP (qs.drop (k + 1)) ++ tail))) := by
    have hc : cellsP qs = cellsP (qs.take k) ++ (cellRV qs[k] ++ cellsP (qs.drop (k + 1))) := by
      conv => lhs; rw [e]
      unfold cellsP; rw [List.flatMap_append, List.flatMap_cons]
    rw [hc]
    simp only [List.append_assoc]
    rfl
  have h3 : cellsP (qs.set k (⟨x, qs[k].1.args, qs[k].1.to⟩, qs[k].2)) ++ tail = cellsP (qs.take k) ++ (.int .i64 x :: ([qs[k].2, .int .i64 qs[k].1.to] ++ (cellsP (qs.drop (k + 1)) ++ tail))) := by
    rw [e2]
    unfold cellsP
    rw [List.flatMap_append, List.flatMap_cons]
    simp only [List.append_assoc]
    rfl
  show (cellsP qs ++ tail).take (k * 3) ++ [Value.int .i64 x] ++ (cellsP qs ++ tail).drop (k * 3 + 1) = _
  have ht : (cellsP qs ++ tail).take (k * 3) = cellsP (qs.take k) := by rw [h2]; exact List.take_left' hl
  have hd : (cellsP qs ++ tail).drop (k * 3 + 1) = [qs[k].2, .int .i64 qs[k].1.to] ++ (cellsP (qs.drop (k + 1)) ++ tail) := by
    rw [h2, List.drop_append, hl, List.drop_of_length_le (by omega), show k * 3 + 1 - k * 3 = 1 by omega]
    rfl
  rw [hd, ht, h3, List.append_assoc]
  rfl
theorem put_img {l : List Int} {ps : List (Rl × Value)} {k off : Nat} (tail : List Value) (hk : k < ps.length) (ho : off = k * 3) :
    putCells (cellsP (qsAt l ps k) ++ tail).toArray off [.int .i64 (l.getD ps[k].1.sym.toNat 0)] = (cellsP (qsAt l ps (k + 1)) ++ tail).toArray := by
  have hk2 : k < (qsAt l ps k).length := by rw [qsAt_len]; exact hk
  rw [put_sym (qsAt l ps k) tail hk2 ho]
  have e : ((⟨l.getD ps[k].1.sym.toNat 0, (qsAt l ps k)[k].1.args, (qsAt l ps k)[k].1.to⟩ : Rl), (qsAt l ps k)[k].2) = imgP l ps[k] := by rw [qsAt_get hk]; rfl
  rw [e, qsAt_set hk]
section rules
variable {P : Program} {n : Nat} {c : Cx} {Q : Exit → Act → World → Prop} {l : KL} {hl : HL} {H : View}
theorem KQ_pubmany {x : Exit} {ti : TypeId} {ps : List (Rl × Value)} (hb : ∀ p ∈ ps, RlB p.1) (h : ∀ H', VLe H H' → (∀ p ∈ ps, RVok H' p) → KQ n c Q x l hl H') : KQ n c Q x l (many (rowsFrom ti ps) :: hl) H := by
  intro ρ w hm ho
  obtain ⟨H', h1, h2, h3⟩ := ho.pub_many hb
  exact h H' h1 h2 ρ w hm h3
end rules
end Pal

/-
  Trees with turned symbols; when a run exists; images and inverse images accept alike. Plain Lean, no program. Own work.
-/
namespace Pal
open Go Go.Proofs Go.Proofs.X
def turnS (l : List Int) (s : Int) : Int := if 0 ≤ s ∧ s < l.length then l.getD s.toNat 0 else 0
mutual
def Tr.turn (l : List Int) : Tr → Tr
  | .node s ts => .node (turnS l s) (Tr.turns l ts)
def Tr.turns (l : List Int) : List Tr → List Tr
  | [] => []
  | t :: r => Tr.turn l t :: Tr.turns l r
end
theorem Tr.turns_map (l : List Int) : ∀ ts, Tr.turns l ts = ts.map (Tr.turn l)
  | [] => rfl
  | t :: r => by rw [Tr.turns, Tr.turns_map l r]; rfl
mutual
theorem Tr.turn_relabel {l : List Int} : ∀ (t u : Tr), Tr.relabel l t = some u → Tr.turn l t = u
  | .node s ts, u, h => by
    simp only [Tr.relabel] at h
    split at h
    · rename_i hs
      cases hr : Tr.relabels l ts with
      | none => rw [hr] at h; simp at h
      | some us =>
        rw [hr] at h
        simp only [Option.map_some, Option.some.injEq] at h
        subst h
        rw [Tr.turn, Tr.turns_relabel ts us hr]
        unfold turnS
        rw [if_pos hs]
    · cases h
theorem Tr.turns_relabel {l : List Int} : ∀ (ts us : List Tr), Tr.relabels l ts = some us → Tr.turns l ts = us
  | [], us, h => by simp [Tr.relabels] at h; subst h; rfl
  | t :: r, us, h => by
    simp only [Tr.relabels] at h
    cases ht : Tr.relabel l t with
    | none => rw [ht] at h; cases h
    | some u =>
      rw [ht] at h
      cases hr : Tr.relabels l r with
      | none => rw [hr] at h; simp at h
      | some vs =>
        rw [hr] at h
        simp only [Option.map_some, Option.some.injEq] at h
        subst h
        rw [Tr.turns, Tr.turn_relabel t u ht, Tr.turns_relabel r vs hr]
end
mutual
theorem Tr.turn_size (l : List Int) : ∀ t : Tr, (Tr.turn l t).size = t.size
  | .node s ts => by simp only [Tr.turn, Tr.size, Tr.turns_size l ts]
theorem Tr.turns_size (l : List Int) : ∀ ts : List Tr, Tr.sizes (Tr.turns l ts) = Tr.sizes ts
  | [] => rfl
  | t :: r => by simp only [Tr.turns, Tr.sizes, Tr.turn_size l t, Tr.turns_size l r]
end
/-! ### When there is a run -/
theorem sum_pos_iff {α : Type} (f : α → Nat) : ∀ l : List α, 0 < (l.map f).sum ↔ ∃ x ∈ l, 0 < f x
  | [] => by simp
  | a :: l => by
    have ih := sum_pos_iff f l
    simp only [List.map_cons, List.sum_cons, List.mem_cons, exists_eq_or_imp]
    rw [← ih]; omega
theorem Tr.cnt_pos {rs : List Rl} {s : Int} {ts : List Tr} {q : Int} : 0 < Tr.cnt rs (.node s ts) q ↔ ∃ r ∈ rs, r.sym = s ∧ r.to = q ∧ 0 < Tr.cnts rs ts r.args := by
  rw [Tr.cnt, sum_pos_iff]
  constructor
  · rintro ⟨r, hr, h⟩
    obtain ⟨h1, h2⟩ := List.mem_filter.1 hr
    have h3 := of_decide_eq_true h2
    exact ⟨r, h1, h3.1, h3.2, h⟩
  · rintro ⟨r, h1, h2, h3, h⟩
    exact ⟨r, List.mem_filter.2 ⟨h1, decide_eq_true ⟨h2, h3⟩⟩, h⟩
theorem Tr.cnts_pos {rs : List Rl} {t : Tr} {ts : List Tr} {q : Int} {qs : List Int} : 0 < Tr.cnts rs (t :: ts) (q :: qs) ↔ 0 < Tr.cnt rs t q ∧ 0 < Tr.cnts rs ts qs := by
  rw [Tr.cnts]
  constructor
  · intro h
    exact ⟨Nat.pos_of_ne_zero fun e => by rw [e] at h; simp at h, Nat.pos_of_ne_zero fun e => by rw [e] at h; simp at h⟩
  · rintro ⟨h1, h2⟩; exact Nat.mul_pos h1 h2
mutual
theorem Tr.cnt_mono {rs rs' : List Rl} (h : ∀ x ∈ rs, x ∈ rs') : ∀ (t : Tr) (q : Int), 0 < t.cnt rs q → 0 < t.cnt rs' q
  | .node s ts, q, hp => by
    obtain ⟨r, h1, h2, h3, h4⟩ := Tr.cnt_pos.1 hp
    exact Tr.cnt_pos.2 ⟨r, h r h1, h2, h3, Tr.cnts_mono h ts r.args h4⟩
theorem Tr.cnts_mono {rs rs' : List Rl} (h : ∀ x ∈ rs, x ∈ rs') : ∀ (ts : List Tr) (qs : List Int), 0 < Tr.cnts rs ts qs → 0 < Tr.cnts rs' ts qs
  | [], [], _ => Nat.one_pos
  | t :: ts, q :: qs, hp => by
    obtain ⟨h1, h2⟩ := Tr.cnts_pos.1 hp
    exact Tr.cnts_pos.2 ⟨Tr.cnt_mono h t q h1, Tr.cnts_mono h ts qs h2⟩
  | [], _ :: _, hp => absurd hp (Nat.lt_irrefl 0)
  | _ :: _, [], hp => absurd hp (Nat.lt_irrefl 0)
end
theorem cnt_sortO (rs : List Rl) (t : Tr) (q : Int) : 0 < t.cnt (sortO rs) q ↔ 0 < t.cnt rs q :=
  ⟨Tr.cnt_mono (fun _ h => sortO_mem.1 h) t q, Tr.cnt_mono (fun _ h => sortO_mem.2 h) t q⟩
theorem accA_iff {a : Au} {t : Tr} : accA a t = true ↔ askErr a t = 0 ∧ ∃ q ∈ a.final, 0 < t.cnt a.rules q := by
  unfold accA
  rw [Bool.and_eq_true, decide_eq_true_eq, List.any_eq_true]
  simp only [decide_eq_true_eq, cnt_sortO]
theorem norm_err {a : Au} (h : auErr a = 0) : auErr (normA a) = 0 := by
  have hok := AuOk.of h
  have hr : ranksErr a.ranks = 0 := by
    unfold auErr at h
    split at h
    · rename_i h1; exact absurd h h1
    · rename_i h1; exact Decidable.not_not.1 h1
  exact (normA_ok hok).err hr
theorem ranks_of_auErr {a : Au} (h : auErr a = 0) : ranksErr a.ranks = 0 := by
  unfold auErr at h
  split at h
  · rename_i h1; exact absurd h h1
  · rename_i h1; exact Decidable.not_not.1 h1
theorem ask_norm {a : Au} (h : auErr a = 0) (t : Tr) : askErr (normA a) t = askErr a t := by
  unfold askErr
  rw [if_neg (not_not_intro (norm_err h)), if_neg (not_not_intro h)]
  rfl
theorem bool_iff {a b : Bool} (h : a = true ↔ b = true) : a = b := by cases a <;> cases b <;> simp_all
theorem acc_norm {a : Au} (h : auErr a = 0) (t : Tr) : accA (normA a) t = accA a t := bool_iff (by
  rw [accA_iff, accA_iff, ask_norm h]
  show _ ∧ (∃ q ∈ sortI a.final, 0 < t.cnt (sortO a.rules) q) ↔ _
  simp only [sortI_mem, cnt_sortO])
/-! ### Images and inverse images -/
mutual
theorem Tr.cnt_img {l : List Int} {rs : List Rl} : ∀ (t u : Tr), Tr.relabel l t = some u → ∀ q, 0 < t.cnt rs q → 0 < u.cnt (rs.map (imgR l)) q
  | .node s ts, u, h, q, hp => by
    simp only [Tr.relabel] at h
    split at h
    · rename_i hs
      cases hr : Tr.relabels l ts with
      | none => rw [hr] at h; simp at h
      | some us =>
        rw [hr] at h
        simp only [Option.map_some, Option.some.injEq] at h
        subst h
        obtain ⟨r, h1, h2, h3, h4⟩ := Tr.cnt_pos.1 hp
        exact Tr.cnt_pos.2 ⟨imgR l r, List.mem_map.2 ⟨r, h1, rfl⟩, by subst h2; rfl, h3, Tr.cnts_img ts us hr r.args h4⟩
    · cases h
theorem Tr.cnts_img {l : List Int} {rs : List Rl} : ∀ (ts us : List Tr), Tr.relabels l ts = some us → ∀ qs, 0 < Tr.cnts rs ts qs → 0 < Tr.cnts (rs.map (imgR l)) us qs
  | [], us, h, qs, hp => by
    simp [Tr.relabels] at h; subst h
    cases qs with
    | nil => exact Nat.one_pos
    | cons q qs => exact absurd hp (Nat.lt_irrefl 0)
  | t :: r, us, h, qs, hp => by
    simp only [Tr.relabels] at h
    cases ht : Tr.relabel l t with
    | none => rw [ht] at h; cases h
    | some u =>
      rw [ht] at h
      cases hr : Tr.relabels l r with
      | none => rw [hr] at h; simp at h
      | some vs =>
        rw [hr] at h
        simp only [Option.map_some, Option.some.injEq] at h
        subst h
        cases qs with
        | nil => exact absurd hp (Nat.lt_irrefl 0)
        | cons q qs =>
          obtain ⟨h1, h2⟩ := Tr.cnts_pos.1 hp
          exact Tr.cnts_pos.2 ⟨Tr.cnt_img t u ht q h1, Tr.cnts_img r vs hr qs h2⟩
end
mutual
theorem Tr.cnt_back {l : List Int} {rs : List Rl} : ∀ (t u : Tr), Tr.relabel l t = some u → ∀ q, 0 < t.cnt (backR l rs l.length) q ↔ 0 < u.cnt rs q
  | .node s ts, u, h, q => by
    simp only [Tr.relabel] at h
    split at h
    · rename_i hs
      cases hr : Tr.relabels l ts with
      | none => rw [hr] at h; simp at h
      | some us =>
        rw [hr] at h
        simp only [Option.map_some, Option.some.injEq] at h
        subst h
        rw [Tr.cnt_pos, Tr.cnt_pos]
        constructor
        · rintro ⟨r, h1, h2, h3, h4⟩
          obtain ⟨n, hn, e, hm⟩ := backR_mem.1 h1
          have hsn : s.toNat = n := by omega
          exact ⟨_, hm, by rw [hsn], h3, (Tr.cnts_back ts us hr r.args).1 h4⟩
        · rintro ⟨r, h1, h2, h3, h4⟩
          refine ⟨⟨s, r.args, r.to⟩, backR_mem.2 ⟨s.toNat, by omega, by show s = _; omega, ?_⟩, rfl, h3, (Tr.cnts_back ts us hr r.args).2 h4⟩
          rw [← h2]; exact h1
    · cases h
theorem Tr.cnts_back {l : List Int} {rs : List Rl} : ∀ (ts us : List Tr), Tr.relabels l ts = some us → ∀ qs, 0 < Tr.cnts (backR l rs l.length) ts qs ↔ 0 < Tr.cnts rs us qs
  | [], us, h, qs => by
    simp [Tr.relabels] at h; subst h
    cases qs <;> exact Iff.rfl
  | t :: r, us, h, qs => by
    simp only [Tr.relabels] at h
    cases ht : Tr.relabel l t with
    | none => rw [ht] at h; cases h
    | some u =>
      rw [ht] at h
      cases hr : Tr.relabels l r with
      | none => rw [hr] at h; simp at h
      | some vs =>
        rw [hr] at h
        simp only [Option.map_some, Option.some.injEq] at h
        subst h
        cases qs with
        | nil => exact Iff.rfl
        | cons q qs => rw [Tr.cnts_pos, Tr.cnts_pos, Tr.cnt_back t u ht q, Tr.cnts_back r vs hr qs]
end
/-- What a right tree turns into. -/
theorem turn_right {rk rk' l : List Int} {t : Tr} (hr : ranksErr rk' = 0) (hm : mapsM l rk rk' = true) (hv : validErr rk t = 0) : Tr.relabel l t = some (Tr.turn l t) ∧ validErr rk' (Tr.turn l t) = 0 := by
  unfold validErr at hv
  split at hv
  · rename_i h; exact absurd hv h
  · split at hv
    · cases hv
    · split at hv
      · cases hv
      · rename_i h1 h2
        obtain ⟨u, g1, g2, _⟩ := Tr.relabel_run (d := ⟨rk', [], []⟩) hm t hv
        rw [Tr.turn_relabel t u g1]
        refine ⟨g1, ?_⟩
        unfold validErr
        rw [if_neg (by rw [hr]; simp), Tr.relabel_size _ _ g1, Tr.relabel_deep _ _ g1, if_neg h1, if_neg h2, g2]
theorem acc_img {a : Au} {l : List Int} {t : Tr} (h : auErr a = 0) (hm : mapsM l a.ranks a.ranks = true) (hv : validErr a.ranks t = 0) (hacc : accA a t = true) : accA (normA (imgA a l a.ranks)) (Tr.turn l t) = true := by
  have hrk := ranks_of_auErr h
  obtain ⟨h1, h2⟩ := turn_right hrk hm hv
  have hie : auErr (imgA a l a.ranks) = 0 := (imgA_ok (AuOk.of h) hrk hm).err hrk
  rw [acc_norm hie, accA_iff]
  obtain ⟨_, q, hq, hp⟩ := accA_iff.1 hacc
  refine ⟨?_, q, hq, Tr.cnt_img t _ h1 q hp⟩
  unfold askErr
  rw [if_neg (not_not_intro hie)]
  exact h2
theorem acc_back {a : Au} {l : List Int} {t : Tr} (h : auErr a = 0) (hm : mapsM l a.ranks a.ranks = true) (hv : validErr a.ranks t = 0) (hb : l.length * a.rules.length ≤ 65536) : accA (normA (backA a l a.ranks)) t = accA a (Tr.turn l t) := by
  have hrk := ranks_of_auErr h
  obtain ⟨h1, h2⟩ := turn_right hrk hm hv
  have hie : auErr (backA a l a.ranks) = 0 := (backA_ok (AuOk.of h) hrk hm hb).err hrk
  refine bool_iff ?_
  rw [acc_norm hie, accA_iff, accA_iff]
  have e1 : askErr (backA a l a.ranks) t = 0 := by unfold askErr; rw [if_neg (not_not_intro hie)]; exact hv
  have e2 : askErr a (Tr.turn l t) = 0 := by unfold askErr; rw [if_neg (not_not_intro h)]; exact h2
  rw [e1, e2]
  show _ ∧ (∃ q ∈ a.final, 0 < t.cnt (backR l a.rules l.length) q) ↔ _
  simp only [Tr.cnt_back t _ h1]
end Pal
