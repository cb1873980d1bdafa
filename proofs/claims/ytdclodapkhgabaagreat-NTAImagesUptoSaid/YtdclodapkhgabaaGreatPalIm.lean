/-
  The image and the inverse image of an automaton under a mapping of symbols, in plain Lean, with the rules that a walk over a row of rules
  needs that is changed in place. Own work. No statement of the seat is proved here.
-/
import Derived.Test.YtdclodapkhgabaaGreatPalEq
namespace Pal
open Go Go.Proofs Go.Proofs.X
def turnErr (a : Au) (rk : List Int) : Int := if auErr a ≠ 0 then auErr a else ranksErr rk
def relErr (a : Au) (l rk : List Int) : Int := if turnErr a rk ≠ 0 then turnErr a rk else if mapsM l a.ranks rk = true then 0 else 3
def invErr (a : Au) (l rk : List Int) : Int := if turnErr a rk ≠ 0 then turnErr a rk else if mapsM l rk a.ranks = true then 0 else 3
def imgR (l : List Int) (r : Rl) : Rl := ⟨l.getD r.sym.toNat 0, r.args, r.to⟩
def imgA (a : Au) (l rk : List Int) : Au := ⟨rk, a.states, a.rules.map (imgR l), a.final⟩
def backS (l : List Int) (rs : List Rl) (s : Nat) : List Rl := (rs.filter fun r => decide (r.sym = l.getD s 0)).map fun r => ⟨(s : Int), r.args, r.to⟩
def backR (l : List Int) (rs : List Rl) (n : Nat) : List Rl := (List.range n).flatMap (backS l rs)
def backA (a : Au) (l rk : List Int) : Au := ⟨rk, a.states, backR l a.rules l.length, a.final⟩
theorem backR_succ (l : List Int) (rs : List Rl) (n : Nat) : backR l rs (n + 1) = backR l rs n ++ backS l rs n := by
  simp [backR, List.range_succ]
theorem backS_snoc {l : List Int} {rs : List Rl} {s k : Nat} (hk : k < rs.length) : backS l (rs.take (k + 1)) s = backS l (rs.take k) s ++ if rs[k].sym = l.getD s 0 then [⟨(s : Int), rs[k].args, rs[k].to⟩] else [] := by
  unfold backS
  rw [List.take_succ_eq_append_getElem hk, List.filter_append, List.map_append]
  congr 1
  by_cases h : rs[k].sym = l.getD s 0
  · rw [if_pos h, List.filter_cons, decide_eq_true h]; rfl
  · rw [if_neg h, List.filter_cons, decide_eq_false h]; rfl
theorem backS_len (l : List Int) (rs : List Rl) (s : Nat) : (backS l rs s).length ≤ rs.length := by
  unfold backS; rw [List.length_map]; exact List.length_filter_le _ _
theorem backR_len (l : List Int) (rs : List Rl) : ∀ n, (backR l rs n).length ≤ n * rs.length
  | 0 => by simp [backR]
  | n + 1 => by
    rw [backR_succ, List.length_append, Nat.succ_mul]
    exact Nat.add_le_add (backR_len l rs n) (backS_len l rs n)
theorem backS_mem {l : List Int} {rs : List Rl} {s : Nat} {r : Rl} : r ∈ backS l rs s ↔ r.sym = (s : Int) ∧ ⟨l.getD s 0, r.args, r.to⟩ ∈ rs := by
  simp only [backS, List.mem_map, List.mem_filter, decide_eq_true_eq]
  constructor
  · rintro ⟨x, ⟨h1, h2⟩, rfl⟩
    refine ⟨rfl, ?_⟩
    have : x = ⟨l.getD s 0, x.args, x.to⟩ := by rw [← h2]
    exact this ▸ h1
  · rintro ⟨h1, h2⟩
    exact ⟨_, ⟨h2, rfl⟩, by rw [← h1]⟩
theorem backR_mem {l : List Int} {rs : List Rl} {n : Nat} {r : Rl} : r ∈ backR l rs n ↔ ∃ s, s < n ∧ r.sym = (s : Int) ∧ ⟨l.getD s 0, r.args, r.to⟩ ∈ rs := by
  simp only [backR, List.mem_flatMap, List.mem_range, backS_mem]
theorem backR_sort (l : List Int) (rs : List Rl) (n : Nat) : sortO (backR l (sortO rs) n) = sortO (backR l rs n) :=
  sortO_congr fun x => by simp only [backR_mem, sortO_mem]
theorem imgA_ok {a : Au} {l rk : List Int} (h : AuOk a) (hr : ranksErr rk = 0) (hm : mapsM l a.ranks rk = true) : AuOk (imgA a l rk) := by
  obtain ⟨h1, h2⟩ := mapsM_iff.1 hm
  obtain ⟨r1, r2⟩ := ranksErr_ok hr
  refine ⟨r1, r2, h.st, by simpa [imgA] using h.ul, fun r hr => ?_, h.fi⟩
  obtain ⟨q, hq, rfl⟩ := List.mem_map.1 hr
  obtain ⟨k1, k2, k3, k4, k5⟩ := h.ru q hq
  have hlt : q.sym.toNat < l.length := by omega
  have e := h2 q.sym.toNat hlt (by omega)
  have e0 : l.getD q.sym.toNat 0 = l[q.sym.toNat] := by simp [List.getD, hlt]
  refine ⟨?_, ?_, ?_, k4, k5⟩
  · show 0 ≤ l.getD q.sym.toNat 0
    rw [e0]; exact e.1.1
  · show l.getD q.sym.toNat 0 < _
    rw [e0]; exact e.1.2
  · show (q.args.length : Int) = rk.getD (l.getD q.sym.toNat 0).toNat 0
    have hlt2 : q.sym.toNat < a.ranks.length := by omega
    rw [e0, e.2, k3]
    simp [List.getD, hlt2]
theorem backA_ok {a : Au} {l rk : List Int} (h : AuOk a) (hr : ranksErr rk = 0) (hm : mapsM l rk a.ranks = true) (hb : l.length * a.rules.length ≤ 65536) : AuOk (backA a l rk) := by
  obtain ⟨h1, h2⟩ := mapsM_iff.1 hm
  obtain ⟨r1, r2⟩ := ranksErr_ok hr
  refine ⟨r1, r2, h.st, Nat.le_trans (backR_len _ _ _) hb, fun r hr => ?_, h.fi⟩
  obtain ⟨s, hs, e1, hq⟩ := backR_mem.1 hr
  obtain ⟨k1, k2, k3, k4, k5⟩ := h.ru _ hq
  have e := h2 s hs (by omega)
  have e0 : l.getD s 0 = l[s] := by simp [List.getD, hs]
  refine ⟨by omega, ?_, ?_, k4, k5⟩
  · show r.sym < (rk.length : Int)
    omega
  · show (r.args.length : Int) = rk.getD r.sym.toNat 0
    rw [e1]
    have hlt : s < rk.length := by omega
    have e3 := k3
    dsimp only at e3
    rw [e3, e0, e.2]
    simp [List.getD, hlt]
theorem backS_symR (l : List Int) (rs : List Rl) (s : Nat) : backS l rs s = (symR rs (l.getD s 0)).map fun r => ⟨(s : Int), r.args, r.to⟩ := rfl
theorem backR_step (l : List Int) (rs : List Rl) (k : Nat) : (backR l rs (k + 1)).length = (backR l rs k).length + (symR rs (l.getD k 0)).length := by
  rw [backR_succ, List.length_append, backS_symR, List.length_map]
theorem backR_fit {l : List Int} {a : Au} (hb : l.length * a.rules.length ≤ 65536) {k : Nat} (hk : k ≤ l.length) : (backR l (sortO a.rules) k).length ≤ 65536 :=
  Nat.le_trans (backR_len _ _ _) (Nat.le_trans (Nat.mul_le_mul hk (sortO_len _)) hb)
theorem back_norm (a : Au) (l rk : List Int) : normA ⟨rk, a.states, backR l (sortO a.rules) l.length, a.final⟩ = normA (backA a l rk) := by
  unfold normA backA
  simp only [backR_sort]
/-! ### A row of rules changed in place -/
def imgP (l : List Int) (p : Rl × Value) : Rl × Value := (imgR l p.1, p.2)
def qsAt (l : List Int) (ps : List (Rl × Value)) (k : Nat) : List (Rl × Value) := (ps.take k).map (imgP l) ++ ps.drop k
theorem qsAt_len (l : List Int) (ps : List (Rl × Value)) (k : Nat) : (qsAt l ps k).length = ps.length := by
  simp only [qsAt, List.length_append, List.length_map, List.length_take, List.length_drop]; omega
theorem qsAt_zero (l : List Int) (ps : List (Rl × Value)) : qsAt l ps 0 = ps := by simp [qsAt]
theorem qsAt_full (l : List Int) (ps : List (Rl × Value)) : qsAt l ps ps.length = ps.map (imgP l) := by simp [qsAt]
theorem qsAt_get {l : List Int} {ps : List (Rl × Value)} {k : Nat} (hk : k < ps.length) : (qsAt l ps k)[k]'(by rw [qsAt_len]; exact hk) = ps[k] := by
  have h0 : ((ps.take k).map (imgP l)).length = k := by simp; omega
  simp only [qsAt]
  rw [List.getElem_append_right (by omega)]
  simp only [h0, Nat.sub_self, List.getElem_drop]
  rfl
theorem qsAt_set {l : List Int} {ps : List (Rl × Value)} {k : Nat} (hk : k < ps.length) : (qsAt l ps k).set k (imgP l ps[k]) = qsAt l ps (k + 1) := by
  have h0 : ((ps.take k).map (imgP l)).length = k := by simp; omega
  unfold qsAt
  rw [List.set_append_right _ _ (by omega), h0, Nat.sub_self, List.drop_eq_getElem_cons hk, List.set_cons_zero, List.take_succ_eq_append_getElem hk, List.map_append, List.append_assoc]
  rfl
theorem put_sym (qs : List (Rl × Value)) (tail : List Value) {k off : Nat} (hk : k < qs.length) (ho : off = k * 3) (x : Int) :
    putCells (cellsP qs ++ tail).toArray off [.int .i64 x] = (cellsP (qs.set k (⟨x, qs[k].1.args, qs[k].1.to⟩, qs[k].2)) ++ tail).toArray := by
  subst ho
  unfold putCells putL
  congr 1
  have e : qs = qs.take k ++ qs[k] :: qs.drop (k + 1) := by simp
  have e2 : qs.set k (⟨x, qs[k].1.args, qs[k].1.to⟩, qs[k].2) = qs.take k ++ (⟨x, qs[k].1.args, qs[k].1.to⟩, qs[k].2) :: qs.drop (k + 1) := List.set_eq_take_append_cons_drop .. |>.trans (by rw [if_pos hk])
  have hl : (cellsP (qs.take k)).length = k * 3 := by rw [cellsP_len, List.length_take, Nat.min_eq_left (by omega)]
  have h2 : cellsP qs ++ tail = cellsP (qs.take k) ++ (.int .i64 qs[k].1.sym :: ([qs[k].2, .int .i64 qs[k].1.to] ++ (cellsP (qs.drop (k + 1)) ++ tail))) := by
    have hc : cellsP qs = cellsP (qs.take k) ++ (cellRV qs[k] ++ cellsP (qs.drop (k + 1))) := by
      conv => lhs; rw [e]
      unfold cellsP; rw [List.flatMap_append, List.flatMap_cons]
    rw [hc]
    simp only [List.append_assoc]
    rfl
  have h3 : cellsP (qs.set k (⟨x, qs[k].1.args, qs[k].1.to⟩, qs[k].2)) ++ tail = cellsP (qs.take k) ++ (.int .i64 x :: ([qs[k].2, .int .i64 qs[k].1.to] ++ (cellsP (qs.drop (k + 1)) ++ tail))) := by
    rw [e2]
    unfold cellsP
    rw [List.flatMap_append, List.flatMap_cons]
    simp only [List.append_assoc]
    rfl
  show (cellsP qs ++ tail).take (k * 3) ++ [Value.int .i64 x] ++ (cellsP qs ++ tail).drop (k * 3 + 1) = _
  have ht : (cellsP qs ++ tail).take (k * 3) = cellsP (qs.take k) := by rw [h2]; exact List.take_left' hl
  have hd : (cellsP qs ++ tail).drop (k * 3 + 1) = [qs[k].2, .int .i64 qs[k].1.to] ++ (cellsP (qs.drop (k + 1)) ++ tail) := by
    rw [h2, List.drop_append, hl, List.drop_of_length_le (by omega), show k * 3 + 1 - k * 3 = 1 by omega]
    rfl
  rw [hd, ht, h3, List.append_assoc]
  rfl
theorem put_img {l : List Int} {ps : List (Rl × Value)} {k off : Nat} (tail : List Value) (hk : k < ps.length) (ho : off = k * 3) :
    putCells (cellsP (qsAt l ps k) ++ tail).toArray off [.int .i64 (l.getD ps[k].1.sym.toNat 0)] = (cellsP (qsAt l ps (k + 1)) ++ tail).toArray := by
  have hk2 : k < (qsAt l ps k).length := by rw [qsAt_len]; exact hk
  rw [put_sym (qsAt l ps k) tail hk2 ho]
  have e : ((⟨l.getD ps[k].1.sym.toNat 0, (qsAt l ps k)[k].1.args, (qsAt l ps k)[k].1.to⟩ : Rl), (qsAt l ps k)[k].2) = imgP l ps[k] := by rw [qsAt_get hk]; rfl
  rw [e, qsAt_set hk]
section rules
variable {P : Program} {n : Nat} {c : Cx} {Q : Exit → Act → World → Prop} {l : KL} {hl : HL} {H : View}
theorem KQ_pubmany {x : Exit} {ti : TypeId} {ps : List (Rl × Value)} (hb : ∀ p ∈ ps, RlB p.1) (h : ∀ H', VLe H H' → (∀ p ∈ ps, RVok H' p) → KQ n c Q x l hl H') : KQ n c Q x l (many (rowsFrom ti ps) :: hl) H := by
  intro ρ w hm ho
  obtain ⟨H', h1, h2, h3⟩ := ho.pub_many hb
  exact h H' h1 h2 ρ w hm h3
end rules
end Pal
