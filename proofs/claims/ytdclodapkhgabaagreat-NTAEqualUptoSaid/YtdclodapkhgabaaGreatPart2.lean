/-
  Part of the proof: rules for walks, contracts of the functions that the statements reach, plain laws. Own work. No statement of the seat is proved here.
-/
import Derived.Test.YtdclodapkhgabaaGreatPalCp
import Derived.Test.YtdclodapkhgabaaGreatPart1
import Derived.Test.YtdclodapkhgabaaGreatPalBk
import Derived.Test.YtdclodapkhgabaaGreatPalRu
import Derived.Test.YtdclodapkhgabaaGreatPalPr
namespace Go.Proofs.X
open Go Pal Go.Proofs
attribute [local irreducible] Pal.KO Pal.KC Pal.KQ Pal.KD

theorem compactR1_spec (ps : List (Rl × Value)) (gb cap : Nat) (tail : List Value) (H : View) (gf : Nat) (hct : callable Tryz.prog gf = true) (hps : ∀ p ∈ ps, RVok H p) (heq : ∀ H2 p q, VLe H H2 → RVok H2 p → RVok H2 q → Sat Tryz.prog gf ([] ++ [Value.agg (cellRV p).toArray, .agg (cellRV q).toArray] ++ []).toArray H2 (fun r _ => r = .bool (eqP p q))) (hl : ps.length ≤ 1099511627776) (hc : ps.length ≤ cap) (hcm : cap ≤ maxLen) (hcl : (ps.flatMap cellRV ++ tail).length = cap * 3) :
    SatO Tryz.prog F2073 #[.slice (some ⟨gb, 0, none⟩) ps.length cap, .func (.func gf) #[] #[]] H [blk gb (.cells (ps.flatMap cellRV ++ tail).toArray T85 (0, 0))] (fun r _ q => ∃ a cap, r = .slice a (compF eqP none ps).length cap ∧ q = [row r T85 3 (compF eqP none ps).length ((compF eqP none ps).flatMap cellRV)]) := by
  have hpl := flat_len cellRV_len ps
  refine enterO (n := 66) (args := [.slice (some ⟨gb, 0, none⟩) ps.length cap, .func (.func gf) #[] #[]]) Tryz.func104 rfl rfl rfl fun w0 => ?_
  refine K_seq ?_
  refine K_region ?_
  refine KV (R_assign rfl) rfl ?_
  refine K_nil ?_
  refine Q_then ?_
  refine K_seq ?_
  refine K_seq ?_
  refine K_region ?_
  refine KV (R_move rfl) rfl ?_
  refine KV (R_len sl48 rfl) rfl ?_
  refine KV (R_cmp rfl rfl rfl) rfl ?_
  refine K_nil ?_
  refine Q_then ?_
  refine K_if rfl (fun h0 => ?_) (fun h0 => ?_)
  ·
    have hsh : ps.length < 2 := by omega
    refine K_seq ?_
    refine K_region ?_
    refine KV (R_move rfl) rfl ?_
    refine KV (R_assign rfl) rfl ?_
    refine K_nil ?_
    refine Q_then ?_
    refine K_ret ?_
    refine Q_then_ret ?_
    refine KQ_shutRow (sz := 3) (k := ps.length) hc hcm hpl (by simpa using hcl) (by simpa using flat_take cellRV_len ps tail (Nat.le_refl _)) ?_
    refine results_sel [0] rfl (rs := [.tmp 4]) (vs := [_]) rfl ⟨rfl, trivial⟩ ?_
    have e := compF_all (eq := eqP) (xs := ps) (k := ps.length) (Nat.le_refl _) (fun j h h1 h2 => by omega)
    rw [List.take_length] at e
    rw [e]
    exact ⟨_, _, rfl, rfl⟩
  ·
    have hsh : 2 ≤ ps.length := by omega
    refine K_skip ?_
    refine Q_then ?_
    refine K_seq ?_
    refine K_seq ?_
    refine K_region ?_
    refine KV (R_assign rfl) rfl ?_
    refine K_nil ?_
    refine Q_then ?_
    refine K_block ?_
    refine K_loopD (G := Nat × View) [4, 5, 6, 7, 12, 13, 14, 15, 16, 17, 18, 19, 20, 21, 22, 23, 24, 25, 26, 27, 28, 29, 30, 31, 32, 33, 34, 35, 36, 37, 38, 39, 40, 41, 42, 43, 44, 45, 46, 47, 48, 49, 50, 51, 52, 53, 54, 55, 56, 57, 58, 59, 60, 61, 62, 63, 64] (fun g => [(5, .int .i64 (g.1 : Int))]) (fun hl g => hl) (fun g => g.2) (fun g => (1 ≤ g.1) ∧ (g.1 ≤ ps.length) ∧ (VLe H g.2) ∧ (∀ j (h : j < ps.length), 0 < j → j < g.1 → eqP ps[j] ps[j - 1] = false)) (fun g => ps.length - g.1) (1, H) ⟨Nat.le_refl _, by omega, VLe.refl _, fun j h h1 h2 => by omega⟩ ⟨rfl, trivial⟩ (by simp only [args0, Nat.reduceAdd, del, memN, beqN, Nat.reduceBEq, cond_true, cond_false]; rfl) rfl rfl ?_
    rintro ⟨k, V⟩ ⟨hk1, hk, hV, hall⟩
    dsimp only at hk1 hk hV hall
    dsimp only [List.set, List.cons_append, List.nil_append]
    refine K_seq ?_
    refine K_seq ?_
    refine K_region ?_
    refine KV (R_move rfl) rfl ?_
    refine KV (R_move rfl) rfl ?_
    refine KV (R_len sl48 rfl) rfl ?_
    refine KV (R_cmp rfl rfl rfl) rfl ?_
    refine K_nil ?_
    refine Q_then ?_
    refine K_if rfl (fun h1 => ?_) (fun h1 => ?_)
    ·
      have hk' : k < ps.length := by omega
      refine K_skip ?_
      refine Q_then ?_
      refine K_seq ?_
      refine K_block ?_
      refine K_seq ?_
      refine K_regionD (fin := false) (R := [0, 1, 2, 3, 4, 5, 6, 7, 8, 9, 10]) (by kernel_rfl) mixed (.cons_cons _ (List.nil_sublist _)) ?_
      refine D_val rfl rfl rfl (R_move rfl) ?_
      refine D_val rfl rfl rfl (R_move rfl) ?_
      refine D_val rfl rfl rfl (R_move rfl) ?_
      refine D_val rfl rfl rfl (R_indexN sl48 ty85 rfl rfl (by omega)) ?_
      refine D_val rfl rfl rfl (R_loadO ty85 0 rfl rfl (flat_get cellRV_len ps tail (i := k) (by omega) (by omega)) rfl (fun e => by cases e) rfl) ?_
      refine D_val rfl rfl rfl (R_move rfl) ?_
      refine D_val rfl rfl rfl (R_move rfl) ?_
      refine D_val rfl rfl rfl (R_sub rfl rfl (by omega)) ?_
      refine D_val rfl rfl rfl (R_index sl48 ty85 rfl rfl ⟨by omega, by omega⟩) ?_
      refine D_val rfl rfl rfl (R_loadO ty85 0 rfl rfl (flat_get cellRV_len ps tail (i := k - 1) (by omega) (by omega)) rfl (fun e => by cases e) rfl) ?_
      refine D_callV rfl rfl hct rfl rfl ⟨⟨0, rfl⟩, trivial⟩ (heq V ps[k] ps[k - 1] (hV) ((hps _ (List.getElem_mem (by omega))).mono (hV)) ((hps _ (List.getElem_mem (by omega))).mono (hV))) ?_
      rintro _ V1 hvV1 rfl
      refine D_done ?_
      refine Q_then ?_
      refine K_ifB rfl (fun heq1 => ?_) (fun heq1 => ?_)
      ·
        refine K_seq ?_
        refine K_region ?_
        refine KV (R_move rfl) rfl ?_
        refine KV (R_move rfl) rfl ?_
        refine KV (R_sliceLoE (m := k) sl48 ty85 rfl rfl (by omega) (by omega)) rfl ?_
        refine KV (R_assign rfl) rfl ?_
        refine K_nil ?_
        refine Q_then ?_
        refine K_seq ?_
        refine K_seq ?_
        refine K_region ?_
        refine KV (R_assign rfl) rfl ?_
        refine K_nil ?_
        refine Q_then ?_
        refine K_block ?_
        refine K_loopD (G := Nat × Nat × (List (Rl × Value)) × View) [5, 7, 32, 33, 34, 35, 36, 37, 38, 39, 40, 41, 42, 43, 44, 45, 46, 47, 48, 49, 50, 51, 52, 53, 54, 55, 56, 57, 58] (fun g => [(7, .int .i64 (g.1 : Int)), (5, .int .i64 (g.2.1 : Int))]) (fun hl g => (hl.set 0 (blk gb (.cells (g.2.2.1.flatMap cellRV ++ tail).toArray T85 (0, 0))))) (fun g => g.2.2.2) (fun g => (1 ≤ g.1) ∧ (CpI eqP ps g.2.2.1 g.2.1 (k + g.1)) ∧ (VLe H g.2.2.2)) (fun g => ps.length - (k + g.1)) (1, k, ps, V1) ⟨Nat.le_refl _, CpI.start (show 0 < k by omega) hk' hall heq1, hV.trans hvV1⟩ ⟨rfl, rfl, trivial⟩ (by simp only [args0, Nat.reduceAdd, del, memN, beqN, Nat.reduceBEq, cond_true, cond_false]; rfl) rfl rfl ?_
        rintro ⟨rr, wr, its, V2⟩ ⟨hr1, hcp, hV2⟩
        dsimp only at hr1 hcp hV2
        dsimp only [List.set, List.cons_append, List.nil_append]
        have hcpl := hcp.len
        have hcpw := hcp.wm
        have hcpm := hcp.mn
        have hBs : ((its.flatMap cellRV ++ tail).toArray).size = cap * 3 := by
          rw [List.size_toArray, List.length_append, flat_len cellRV_len, hcp.len]
          rw [List.length_append, flat_len cellRV_len] at hcl
          exact hcl
        refine K_seq ?_
        refine K_seq ?_
        refine K_region ?_
        refine KV (R_move rfl) rfl ?_
        refine KV (R_move rfl) rfl ?_
        refine KV (R_len sl48 rfl) rfl ?_
        refine KV (R_cmp rfl rfl rfl) rfl ?_
        refine K_nil ?_
        refine Q_then ?_
        refine K_if rfl (fun h2 => ?_) (fun h2 => ?_)
        ·
          have hr' : k + rr < ps.length := by omega
          refine K_skip ?_
          refine Q_then ?_
          refine K_seq ?_
          refine K_block ?_
          refine K_seq ?_
          refine K_regionD (fin := false) (R := [0, 1, 2, 3, 4, 5, 6, 7, 8, 9, 10, 11]) (by kernel_rfl) mixed (.cons_cons _ (List.nil_sublist _)) ?_
          refine D_val rfl rfl rfl (R_move rfl) ?_
          refine D_val rfl rfl rfl (R_move rfl) ?_
          refine D_val rfl rfl rfl (R_move rfl) ?_
          refine D_val rfl rfl rfl (R_indexN sl48 ty85 rfl rfl (by omega)) ?_
          refine D_val rfl rfl rfl (R_loadO ty85 0 rfl rfl ((flat_get cellRV_len its tail (i := k + rr) (by omega) (by omega)).trans (congrArg cellRV (hcp.todo (k + rr) (by omega) (by omega)))) rfl (fun e => by cases e) rfl) ?_
          refine D_val rfl rfl rfl (R_move rfl) ?_
          refine D_val rfl rfl rfl (R_move rfl) ?_
          refine D_val rfl rfl rfl (R_sub rfl rfl (by omega)) ?_
          refine D_val rfl rfl rfl (R_index sl48 ty85 rfl rfl ⟨by omega, by omega⟩) ?_
          refine D_val rfl rfl rfl (R_loadO ty85 0 rfl rfl ((flat_get cellRV_len its tail (i := k + rr - 1) (by omega) (by omega)).trans (congrArg cellRV (hcp.todo (k + rr - 1) (by omega) (by omega)))) rfl (fun e => by cases e) rfl) ?_
          refine D_callV rfl rfl hct rfl rfl ⟨⟨0, rfl⟩, trivial⟩ (heq V2 ps[k + rr] ps[k + rr - 1] (hV2) ((hps _ (List.getElem_mem (by omega))).mono (hV2)) ((hps _ (List.getElem_mem (by omega))).mono (hV2))) ?_
          rintro _ V3 hvV3 rfl
          refine D_val rfl rfl rfl (R_notP rfl) ?_
          refine D_done ?_
          refine Q_then ?_
          refine K_ifB rfl (fun hne1 => ?_) (fun hne1 => ?_)
          ·
            have hd : eqP ps[k + rr] ps[k + rr - 1] = false := by simpa [eqP] using hne1
            refine K_seq ?_
            refine K_region ?_
            refine KV (R_move rfl) rfl ?_
            refine KV (R_move rfl) rfl ?_
            refine KV (R_move rfl) rfl ?_
            refine KV (R_move rfl) rfl ?_
            refine KV (R_indexN sl48 ty85 rfl rfl (by omega)) rfl ?_
            refine KV (R_loadO ty85 0 rfl rfl ((flat_get cellRV_len its tail (i := k + rr) (by omega) (by omega)).trans (congrArg cellRV (hcp.todo (k + rr) (by omega) (by omega)))) rfl (fun e => by cases e) rfl) rfl ?_
            refine KV (R_indexN sl48 ty85 rfl rfl (by omega)) rfl ?_
            refine K_storeE ty85 0 rfl rfl rfl rfl (show 0 + wr * 3 + 3 ≤ _ by rw [hBs]; omega) ((hps _ (List.getElem_mem (show k + rr < ps.length by omega))).one) (flat_put cellRV_len its tail (i := wr) (by omega) ps[k + rr] (by omega) rfl) ?_
            refine K_nil ?_
            refine Q_then ?_
            refine K_region ?_
            refine KV (R_move rfl) rfl ?_
            refine KV (R_add rfl rfl (by omega)) rfl ?_
            refine KV (R_assign rfl) rfl ?_
            refine K_nil ?_
            refine Q_block ?_
            refine Q_then ?_
            refine K_region ?_
            refine KV (R_move rfl) rfl ?_
            refine KV (R_add rfl rfl (by omega)) rfl ?_
            refine KV (R_assign rfl) rfl ?_
            refine K_nil ?_
            refine Q_nextD (rr + 1, wr + 1, its.set wr ps[k + rr], V3) ⟨by dsimp only; omega, hcp.keep hr' hd, hV2.trans hvV3⟩ (by (try dsimp only); omega) ⟨rfl, rfl, trivial⟩ rfl rfl rfl
          ·
            have hd : eqP ps[k + rr] ps[k + rr - 1] = true := by simpa [eqP] using hne1
            refine K_skip ?_
            refine Q_block ?_
            refine Q_then ?_
            refine K_region ?_
            refine KV (R_move rfl) rfl ?_
            refine KV (R_add rfl rfl (by omega)) rfl ?_
            refine KV (R_assign rfl) rfl ?_
            refine K_nil ?_
            refine Q_nextD (rr + 1, wr, its, V3) ⟨by dsimp only; omega, hcp.skip hr' hd, hV2.trans hvV3⟩ (by (try dsimp only); omega) ⟨rfl, rfl, trivial⟩ rfl rfl rfl
        ·
          have hr' : k + rr = ps.length := by omega
          refine K_exit ?_
          refine Q_then_exit ?_
          refine Q_then_exit ?_
          refine Q_block_exit ?_
          refine Q_then ?_
          refine K_seq ?_
          refine K_region ?_
          refine KV (R_move rfl) rfl ?_
          refine KV (R_move rfl) rfl ?_
          refine KV (R_sliceLoE (m := wr) sl48 ty85 rfl rfl (by omega) (by omega)) rfl ?_
          refine K_clear 0 (m := 3) sl48 z85 (by simp [Value.cells, Value.oneCell']) rfl rfl rfl (by rw [hBs]; omega) fun cur hcz hct2 => ?_
          refine K_nil ?_
          refine Q_then ?_
          refine K_seq ?_
          refine K_region ?_
          refine KV (R_move rfl) rfl ?_
          refine KV (R_move rfl) rfl ?_
          refine KV (R_sliceHiE (m := wr) sl48 ty85 rfl rfl (by omega)) rfl ?_
          refine KV (R_assign rfl) rfl ?_
          refine K_nil ?_
          refine Q_then ?_
          refine K_ret ?_
          refine Q_block_ret ?_
          refine Q_then_ret ?_
          refine Q_then_ret ?_
          refine Q_block_ret ?_
          refine Q_then_ret ?_
          have hdone := hcp.done
          rw [hr', List.take_length] at hdone
          have hwl : (its.take wr).length = wr := by rw [List.length_take]; omega
          have hits := flat_len cellRV_len its
          refine KQ_shutRow (sz := 3) (k := wr) (xs := (its.take wr).flatMap cellRV) (by omega) hcm (by rw [flat_len cellRV_len, hwl]) (by rw [hcz]; exact hBs) (by rw [show wr * 3 = 0 + wr * 3 by omega, hct2, Nat.zero_add]; exact flat_take cellRV_len its tail (by omega)) ?_
          refine results_sel [0] rfl (rs := [.tmp 4]) (vs := [_]) rfl ⟨rfl, trivial⟩ ?_
          rw [← hdone, hwl]
          exact ⟨_, _, rfl, rfl⟩
      ·
        have hall2 : ∀ j (h : j < ps.length), 0 < j → j < k + 1 → eqP ps[j] ps[j - 1] = false := by
          intro j h hj hjk
          by_cases e : j = k
          · subst e; exact heq1
          · exact hall j h hj (by omega)
        refine K_skip ?_
        refine Q_block ?_
        refine Q_then ?_
        refine K_region ?_
        refine KV (R_move rfl) rfl ?_
        refine KV (R_add rfl rfl (by omega)) rfl ?_
        refine KV (R_assign rfl) rfl ?_
        refine K_nil ?_
        refine Q_nextD (k + 1, V1) ⟨by dsimp only; omega, hk', hV.trans hvV1, hall2⟩ (by (try dsimp only); omega) ⟨rfl, trivial⟩ rfl rfl rfl
    ·
      have hk' : k = ps.length := by omega
      refine K_exit ?_
      refine Q_then_exit ?_
      refine Q_then_exit ?_
      refine Q_block_exit ?_
      refine Q_then ?_
      refine K_seq ?_
      refine K_region ?_
      refine KV (R_move rfl) rfl ?_
      refine KV (R_assign rfl) rfl ?_
      refine K_nil ?_
      refine Q_then ?_
      refine K_ret ?_
      refine KQ_shutRow (sz := 3) (k := ps.length) hc hcm hpl (by simpa using hcl) (by simpa using flat_take cellRV_len ps tail (Nat.le_refl _)) ?_
      refine results_sel [0] rfl (rs := [.tmp 4]) (vs := [_]) rfl ⟨rfl, trivial⟩ ?_
      have e := compF_all (eq := eqP) (xs := ps) (k := ps.length) (Nat.le_refl _) (fun j h h1 h2 => hall j h h1 (by omega))
      rw [List.take_length] at e
      rw [e]
      exact ⟨_, _, rfl, rfl⟩

theorem compactR0_spec (gf : Nat) (H : View) : SatO Tryz.prog F2073 #[nilS, .func (.func gf) #[] #[]] H [] (fun r _ q => r = nilS ∧ q = [row nilS T85 3 0 []]) := by
  refine enterO (n := 66) (args := [nilS, .func (.func gf) #[] #[]]) Tryz.func104 rfl rfl rfl fun w0 => ?_
  refine K_seq ?_
  refine K_region ?_
  refine KV (R_assign rfl) rfl ?_
  refine K_nil ?_
  refine Q_then ?_
  refine K_seq ?_
  refine K_seq ?_
  refine K_region ?_
  refine KV (R_move rfl) rfl ?_
  refine KV (R_len sl48 rfl) rfl ?_
  refine KV (R_cmp rfl rfl rfl) rfl ?_
  refine K_nil ?_
  refine Q_then ?_
  refine K_if rfl (fun h0 => ?_) (fun h0 => ?_)
  ·
    refine K_seq ?_
    refine K_region ?_
    refine KV (R_move rfl) rfl ?_
    refine KV (R_assign rfl) rfl ?_
    refine K_nil ?_
    refine Q_then ?_
    refine K_ret ?_
    refine Q_then_ret ?_
    refine KQ_nilrow T85 3 ?_
    refine results_gen (rs := [.tmp 4]) (vs := [_]) rfl ⟨rfl, trivial⟩ ?_
    exact ⟨rfl, rfl⟩
  ·
    exact absurd (by omega) h0

theorem compactI1_spec (ps : List (Int)) (gb cap : Nat) (tail : List Value) (H : View)  (hl : ps.length ≤ 1099511627776) (hc : ps.length ≤ cap) (hcm : cap ≤ maxLen) (hcl : (ps.flatMap cellI ++ tail).length = cap * 1) :
    SatO Tryz.prog F2075 #[.slice (some ⟨gb, 0, none⟩) ps.length cap] H [blk gb (.cells (ps.flatMap cellI ++ tail).toArray T3 (0, 0))] (fun r _ q => ∃ a cap, r = .slice a (compF eqI none ps).length cap ∧ q = [row r T3 1 (compF eqI none ps).length ((compF eqI none ps).flatMap cellI)]) := by
  have hpl := flat_len cellI_len ps
  refine enterO (n := 61) (args := [.slice (some ⟨gb, 0, none⟩) ps.length cap]) Tryz.func106 rfl rfl rfl fun w0 => ?_
  refine K_seq ?_
  refine K_region ?_
  refine KV (R_assign rfl) rfl ?_
  refine K_nil ?_
  refine Q_then ?_
  refine K_seq ?_
  refine K_seq ?_
  refine K_region ?_
  refine KV (R_move rfl) rfl ?_
  refine KV (R_len sl25 rfl) rfl ?_
  refine KV (R_cmp rfl rfl rfl) rfl ?_
  refine K_nil ?_
  refine Q_then ?_
  refine K_if rfl (fun h0 => ?_) (fun h0 => ?_)
  ·
    have hsh : ps.length < 2 := by omega
    refine K_seq ?_
    refine K_region ?_
    refine KV (R_move rfl) rfl ?_
    refine KV (R_assign rfl) rfl ?_
    refine K_nil ?_
    refine Q_then ?_
    refine K_ret ?_
    refine Q_then_ret ?_
    refine KQ_shutRow (sz := 1) (k := ps.length) hc hcm hpl (by simpa using hcl) (by simpa using flat_take cellI_len ps tail (Nat.le_refl _)) ?_
    refine results_sel [0] rfl (rs := [.tmp 2]) (vs := [_]) rfl ⟨rfl, trivial⟩ ?_
    have e := compF_all (eq := eqI) (xs := ps) (k := ps.length) (Nat.le_refl _) (fun j h h1 h2 => by omega)
    rw [List.take_length] at e
    rw [e]
    exact ⟨_, _, rfl, rfl⟩
  ·
    have hsh : 2 ≤ ps.length := by omega
    refine K_skip ?_
    refine Q_then ?_
    refine K_seq ?_
    refine K_seq ?_
    refine K_region ?_
    refine KV (R_assign rfl) rfl ?_
    refine K_nil ?_
    refine Q_then ?_
    refine K_block ?_
    refine K_loopD (G := Nat × View) [2, 3, 4, 5, 10, 11, 12, 13, 14, 15, 16, 17, 18, 19, 20, 21, 22, 23, 24, 25, 26, 27, 28, 29, 30, 31, 32, 33, 34, 35, 36, 37, 38, 39, 40, 41, 42, 43, 44, 45, 46, 47, 48, 49, 50, 51, 52, 53, 54, 55, 56, 57, 58, 59] (fun g => [(3, .int .i64 (g.1 : Int))]) (fun hl g => hl) (fun g => g.2) (fun g => (1 ≤ g.1) ∧ (g.1 ≤ ps.length) ∧ (VLe H g.2) ∧ (∀ j (h : j < ps.length), 0 < j → j < g.1 → eqI ps[j] ps[j - 1] = false)) (fun g => ps.length - g.1) (1, H) ⟨Nat.le_refl _, by omega, VLe.refl _, fun j h h1 h2 => by omega⟩ ⟨rfl, trivial⟩ (by simp only [args0, Nat.reduceAdd, del, memN, beqN, Nat.reduceBEq, cond_true, cond_false]; rfl) rfl rfl ?_
    rintro ⟨k, V⟩ ⟨hk1, hk, hV, hall⟩
    dsimp only at hk1 hk hV hall
    dsimp only [List.set, List.cons_append, List.nil_append]
    refine K_seq ?_
    refine K_seq ?_
    refine K_region ?_
    refine KV (R_move rfl) rfl ?_
    refine KV (R_move rfl) rfl ?_
    refine KV (R_len sl25 rfl) rfl ?_
    refine KV (R_cmp rfl rfl rfl) rfl ?_
    refine K_nil ?_
    refine Q_then ?_
    refine K_if rfl (fun h1 => ?_) (fun h1 => ?_)
    ·
      have hk' : k < ps.length := by omega
      refine K_skip ?_
      refine Q_then ?_
      refine K_seq ?_
      refine K_block ?_
      refine K_seq ?_
      refine K_regionD (fin := false) (R := [0, 1, 2, 3, 4, 5, 6, 7, 8, 9]) (by kernel_rfl) mixed (.cons_cons _ (List.nil_sublist _)) ?_
      refine D_val rfl rfl rfl (R_move rfl) ?_
      refine D_val rfl rfl rfl (R_move rfl) ?_
      refine D_val rfl rfl rfl (R_indexN sl25 ty3 rfl rfl (by omega)) ?_
      refine D_val rfl rfl rfl (R_loadO ty3 0 rfl rfl (flat_get cellI_len ps tail (i := k) (by omega) (by omega)) rfl (fun _ => rfl) rfl) ?_
      refine D_val rfl rfl rfl (R_move rfl) ?_
      refine D_val rfl rfl rfl (R_move rfl) ?_
      refine D_val rfl rfl rfl (R_sub rfl rfl (by omega)) ?_
      refine D_val rfl rfl rfl (R_index sl25 ty3 rfl rfl ⟨by omega, by omega⟩) ?_
      refine D_val rfl rfl rfl (R_loadO ty3 0 rfl rfl (flat_get cellI_len ps tail (i := k - 1) (by omega) (by omega)) rfl (fun _ => rfl) rfl) ?_
      refine D_val rfl rfl rfl (R_cmp rfl rfl rfl) ?_
      refine D_done ?_
      refine Q_then ?_
      refine K_if rfl (fun heq1 => ?_) (fun heq1 => ?_)
      ·
        have heq1 := decide_eq_true heq1
        refine K_seq ?_
        refine K_region ?_
        refine KV (R_move rfl) rfl ?_
        refine KV (R_move rfl) rfl ?_
        refine KV (R_sliceLoE (m := k) sl25 ty3 rfl rfl (by omega) (by omega)) rfl ?_
        refine KV (R_assign rfl) rfl ?_
        refine K_nil ?_
        refine Q_then ?_
        refine K_seq ?_
        refine K_seq ?_
        refine K_region ?_
        refine KV (R_assign rfl) rfl ?_
        refine K_nil ?_
        refine Q_then ?_
        refine K_block ?_
        refine K_loopD (G := Nat × Nat × List (Int) × View) [3, 5, 29, 30, 31, 32, 33, 34, 35, 36, 37, 38, 39, 40, 41, 42, 43, 44, 45, 46, 47, 48, 49, 50, 51, 52, 53] (fun g => [(5, .int .i64 (g.1 : Int)), (3, .int .i64 (g.2.1 : Int))]) (fun hl g => (hl.set 0 (blk gb (.cells (g.2.2.1.flatMap cellI ++ tail).toArray T3 (0, 0))))) (fun g => g.2.2.2) (fun g => (1 ≤ g.1) ∧ (CpI eqI ps g.2.2.1 g.2.1 (k + g.1)) ∧ (VLe H g.2.2.2)) (fun g => ps.length - (k + g.1)) (1, k, ps, V) ⟨Nat.le_refl _, CpI.start (show 0 < k by omega) hk' hall heq1, hV⟩ ⟨rfl, rfl, trivial⟩ (by simp only [args0, Nat.reduceAdd, del, memN, beqN, Nat.reduceBEq, cond_true, cond_false]; rfl) rfl rfl ?_
        rintro ⟨rr, wr, its, V2⟩ ⟨hr1, hcp, hV2⟩
        dsimp only at hr1 hcp hV2
        dsimp only [List.set, List.cons_append, List.nil_append]
        have hcpl := hcp.len
        have hcpw := hcp.wm
        have hcpm := hcp.mn
        have hBs : ((its.flatMap cellI ++ tail).toArray).size = cap * 1 := by
          rw [List.size_toArray, List.length_append, flat_len cellI_len, hcp.len]
          rw [List.length_append, flat_len cellI_len] at hcl
          exact hcl
        refine K_seq ?_
        refine K_seq ?_
        refine K_region ?_
        refine KV (R_move rfl) rfl ?_
        refine KV (R_move rfl) rfl ?_
        refine KV (R_len sl25 rfl) rfl ?_
        refine KV (R_cmp rfl rfl rfl) rfl ?_
        refine K_nil ?_
        refine Q_then ?_
        refine K_if rfl (fun h2 => ?_) (fun h2 => ?_)
        ·
          have hr' : k + rr < ps.length := by omega
          refine K_skip ?_
          refine Q_then ?_
          refine K_seq ?_
          refine K_block ?_
          refine K_seq ?_
          refine K_regionD (fin := false) (R := [0, 1, 2, 3, 4, 5, 6, 7, 8, 9]) (by kernel_rfl) mixed (.cons_cons _ (List.nil_sublist _)) ?_
          refine D_val rfl rfl rfl (R_move rfl) ?_
          refine D_val rfl rfl rfl (R_move rfl) ?_
          refine D_val rfl rfl rfl (R_indexN sl25 ty3 rfl rfl (by omega)) ?_
          refine D_val rfl rfl rfl (R_loadO ty3 0 rfl rfl ((flat_get cellI_len its tail (i := k + rr) (by omega) (by omega)).trans (congrArg cellI (hcp.todo (k + rr) (by omega) (by omega)))) rfl (fun _ => rfl) rfl) ?_
          refine D_val rfl rfl rfl (R_move rfl) ?_
          refine D_val rfl rfl rfl (R_move rfl) ?_
          refine D_val rfl rfl rfl (R_sub rfl rfl (by omega)) ?_
          refine D_val rfl rfl rfl (R_index sl25 ty3 rfl rfl ⟨by omega, by omega⟩) ?_
          refine D_val rfl rfl rfl (R_loadO ty3 0 rfl rfl ((flat_get cellI_len its tail (i := k + rr - 1) (by omega) (by omega)).trans (congrArg cellI (hcp.todo (k + rr - 1) (by omega) (by omega)))) rfl (fun _ => rfl) rfl) ?_
          refine D_val rfl rfl rfl (R_cmp rfl rfl rfl) ?_
          refine D_done ?_
          refine Q_then ?_
          refine K_if rfl (fun hne1 => ?_) (fun hne1 => ?_)
          ·
            have hd : eqI ps[k + rr] ps[k + rr - 1] = false := by simpa [eqI] using hne1
            refine K_seq ?_
            refine K_region ?_
            refine KV (R_move rfl) rfl ?_
            refine KV (R_move rfl) rfl ?_
            refine KV (R_move rfl) rfl ?_
            refine KV (R_move rfl) rfl ?_
            refine KV (R_indexN sl25 ty3 rfl rfl (by omega)) rfl ?_
            refine KV (R_loadO ty3 0 rfl rfl ((flat_get cellI_len its tail (i := k + rr) (by omega) (by omega)).trans (congrArg cellI (hcp.todo (k + rr) (by omega) (by omega)))) rfl (fun _ => rfl) rfl) rfl ?_
            refine KV (R_indexN sl25 ty3 rfl rfl (by omega)) rfl ?_
            refine K_storeE ty3 0 rfl rfl rfl rfl (show 0 + wr * 1 + 1 ≤ _ by rw [hBs]; omega) (rfl) (flat_put cellI_len its tail (i := wr) (by omega) ps[k + rr] (by omega) rfl) ?_
            refine K_nil ?_
            refine Q_then ?_
            refine K_region ?_
            refine KV (R_move rfl) rfl ?_
            refine KV (R_add rfl rfl (by omega)) rfl ?_
            refine KV (R_assign rfl) rfl ?_
            refine K_nil ?_
            refine Q_block ?_
            refine Q_then ?_
            refine K_region ?_
            refine KV (R_move rfl) rfl ?_
            refine KV (R_add rfl rfl (by omega)) rfl ?_
            refine KV (R_assign rfl) rfl ?_
            refine K_nil ?_
            refine Q_nextD (rr + 1, wr + 1, its.set wr ps[k + rr], V2) ⟨by dsimp only; omega, hcp.keep hr' hd, hV2⟩ (by (try dsimp only); omega) ⟨rfl, rfl, trivial⟩ rfl rfl rfl
          ·
            have hd : eqI ps[k + rr] ps[k + rr - 1] = true := by simpa [eqI] using hne1
            refine K_skip ?_
            refine Q_block ?_
            refine Q_then ?_
            refine K_region ?_
            refine KV (R_move rfl) rfl ?_
            refine KV (R_add rfl rfl (by omega)) rfl ?_
            refine KV (R_assign rfl) rfl ?_
            refine K_nil ?_
            refine Q_nextD (rr + 1, wr, its, V2) ⟨by dsimp only; omega, hcp.skip hr' hd, hV2⟩ (by (try dsimp only); omega) ⟨rfl, rfl, trivial⟩ rfl rfl rfl
        ·
          have hr' : k + rr = ps.length := by omega
          refine K_exit ?_
          refine Q_then_exit ?_
          refine Q_then_exit ?_
          refine Q_block_exit ?_
          refine Q_then ?_
          refine K_seq ?_
          refine K_region ?_
          refine KV (R_move rfl) rfl ?_
          refine KV (R_move rfl) rfl ?_
          refine KV (R_sliceLoE (m := wr) sl25 ty3 rfl rfl (by omega) (by omega)) rfl ?_
          refine K_clear 0 (m := 1) sl25 z3 (by simp [Value.cells, Value.oneCell']) rfl rfl rfl (by rw [hBs]; omega) fun cur hcz hct2 => ?_
          refine K_nil ?_
          refine Q_then ?_
          refine K_seq ?_
          refine K_region ?_
          refine KV (R_move rfl) rfl ?_
          refine KV (R_move rfl) rfl ?_
          refine KV (R_sliceHiE (m := wr) sl25 ty3 rfl rfl (by omega)) rfl ?_
          refine KV (R_assign rfl) rfl ?_
          refine K_nil ?_
          refine Q_then ?_
          refine K_ret ?_
          refine Q_block_ret ?_
          refine Q_then_ret ?_
          refine Q_then_ret ?_
          refine Q_block_ret ?_
          refine Q_then_ret ?_
          have hdone := hcp.done
          rw [hr', List.take_length] at hdone
          have hwl : (its.take wr).length = wr := by rw [List.length_take]; omega
          have hits := flat_len cellI_len its
          refine KQ_shutRow (sz := 1) (k := wr) (xs := (its.take wr).flatMap cellI) (by omega) hcm (by rw [flat_len cellI_len, hwl]) (by rw [hcz]; exact hBs) (by rw [show wr * 1 = 0 + wr * 1 by omega, hct2, Nat.zero_add]; exact flat_take cellI_len its tail (by omega)) ?_
          refine results_sel [0] rfl (rs := [.tmp 2]) (vs := [_]) rfl ⟨rfl, trivial⟩ ?_
          rw [← hdone, hwl]
          exact ⟨_, _, rfl, rfl⟩
      ·
        have heq1 := decide_eq_false heq1
        have hall2 : ∀ j (h : j < ps.length), 0 < j → j < k + 1 → eqI ps[j] ps[j - 1] = false := by
          intro j h hj hjk
          by_cases e : j = k
          · subst e; exact heq1
          · exact hall j h hj (by omega)
        refine K_skip ?_
        refine Q_block ?_
        refine Q_then ?_
        refine K_region ?_
        refine KV (R_move rfl) rfl ?_
        refine KV (R_add rfl rfl (by omega)) rfl ?_
        refine KV (R_assign rfl) rfl ?_
        refine K_nil ?_
        refine Q_nextD (k + 1, V) ⟨by dsimp only; omega, hk', hV, hall2⟩ (by (try dsimp only); omega) ⟨rfl, trivial⟩ rfl rfl rfl
    ·
      have hk' : k = ps.length := by omega
      refine K_exit ?_
      refine Q_then_exit ?_
      refine Q_then_exit ?_
      refine Q_block_exit ?_
      refine Q_then ?_
      refine K_seq ?_
      refine K_region ?_
      refine KV (R_move rfl) rfl ?_
      refine KV (R_assign rfl) rfl ?_
      refine K_nil ?_
      refine Q_then ?_
      refine K_ret ?_
      refine KQ_shutRow (sz := 1) (k := ps.length) hc hcm hpl (by simpa using hcl) (by simpa using flat_take cellI_len ps tail (Nat.le_refl _)) ?_
      refine results_sel [0] rfl (rs := [.tmp 2]) (vs := [_]) rfl ⟨rfl, trivial⟩ ?_
      have e := compF_all (eq := eqI) (xs := ps) (k := ps.length) (Nat.le_refl _) (fun j h h1 h2 => hall j h h1 (by omega))
      rw [List.take_length] at e
      rw [e]
      exact ⟨_, _, rfl, rfl⟩

theorem compactI0_spec (H : View) : SatO Tryz.prog F2075 #[nilS] H [] (fun r _ q => r = nilS ∧ q = [row nilS T3 1 0 []]) := by
  refine enterO (n := 61) (args := [nilS]) Tryz.func106 rfl rfl rfl fun w0 => ?_
  refine K_seq ?_
  refine K_region ?_
  refine KV (R_assign rfl) rfl ?_
  refine K_nil ?_
  refine Q_then ?_
  refine K_seq ?_
  refine K_seq ?_
  refine K_region ?_
  refine KV (R_move rfl) rfl ?_
  refine KV (R_len sl25 rfl) rfl ?_
  refine KV (R_cmp rfl rfl rfl) rfl ?_
  refine K_nil ?_
  refine Q_then ?_
  refine K_if rfl (fun h0 => ?_) (fun h0 => ?_)
  ·
    refine K_seq ?_
    refine K_region ?_
    refine KV (R_move rfl) rfl ?_
    refine KV (R_assign rfl) rfl ?_
    refine K_nil ?_
    refine Q_then ?_
    refine K_ret ?_
    refine Q_then_ret ?_
    refine KQ_nilrow T3 1 ?_
    refine results_gen (rs := [.tmp 2]) (vs := [_]) rfl ⟨rfl, trivial⟩ ?_
    exact ⟨rfl, rfl⟩
  ·
    exact absurd (by omega) h0

theorem compactR_spec (ps : List (Rl × Value)) (v : Value) (H : View) (gf : Nat) (hct : callable Tryz.prog gf = true) (hps : ∀ p ∈ ps, RVok H p) (heq : ∀ H2 p q, VLe H H2 → RVok H2 p → RVok H2 q → Sat Tryz.prog gf ([] ++ [Value.agg (cellRV p).toArray, .agg (cellRV q).toArray] ++ []).toArray H2 (fun r _ => r = .bool (eqP p q))) (hl : ps.length ≤ 1099511627776) :
    SatO Tryz.prog F2073 #[v, .func (.func gf) #[] #[]] H [row v T85 3 ps.length (cellsP ps)] (fun r _ q => ∃ a cap, r = .slice a (compF eqP none ps).length cap ∧ q = [row r T85 3 (compF eqP none ps).length (cellsP (compF eqP none ps))]) := by
  refine SatO.openRow (fun h1 h2 h3 => ?_) (fun gb cap tail h1 h2 h3 h4 h5 => ?_)
  · have : ps = [] := List.eq_nil_of_length_eq_zero h2
    subst this h1
    refine (compactR0_spec gf H).mono' ?_
    rintro r _ q ⟨rfl, rfl⟩
    exact ⟨none, 0, rfl, rfl⟩
  · subst h1
    exact compactR1_spec ps gb cap tail H gf hct hps heq hl h2 h3 h5
theorem compactI_spec (ps : List Int) (v : Value) (H : View) (hl : ps.length ≤ 1099511627776) :
    SatO Tryz.prog F2075 #[v] H [row v T3 1 ps.length (ints ps)] (fun r _ q => ∃ a cap, r = .slice a (compF eqI none ps).length cap ∧ q = [row r T3 1 (compF eqI none ps).length (ints (compF eqI none ps))]) := by
  refine SatO.openRow (fun h1 h2 h3 => ?_) (fun gb cap tail h1 h2 h3 h4 h5 => ?_)
  · have : ps = [] := List.eq_nil_of_length_eq_zero h2
    subst this h1
    refine (compactI0_spec H).mono' ?_
    rintro r _ q ⟨rfl, rfl⟩
    exact ⟨none, 0, rfl, rfl⟩
  · subst h1
    rw [ints_flat] at h5 ⊢
    refine (compactI1_spec ps gb cap tail H hl h2 h3 h5).mono' ?_
    rintro r _ q ⟨a, cp, rfl, rfl⟩
    exact ⟨a, cp, rfl, by rw [ints_flat]⟩
end Go.Proofs.X

namespace Go.Proofs.X
open Go Pal Go.Proofs
attribute [local irreducible] Pal.KO Pal.KC Pal.KQ Pal.KD
theorem c45 : callable Tryz.prog F45 = true := by kernel_rfl
theorem c65 : callable Tryz.prog F65 = true := by kernel_rfl
theorem c2050 : callable Tryz.prog F2050 = true := by kernel_rfl
theorem sortR_spec (gf : Nat) (hg : callable Tryz.prog gf = true) (H : View)
    (hord : ∀ (r s : Rl) (v u : Value), RVok H (r, v) → RVok H (s, u) → Sat Tryz.prog gf #[.agg #[.int .i64 r.sym, v, .int .i64 r.to], .agg #[.int .i64 s.sym, u, .int .i64 s.to]] H (fun x _ => x = .int .i64 (ordR r s)))
    (ps : List (Rl × Value)) (hps : ∀ p ∈ ps, RVok H p) (v : Value) (hlen : ps.length ≤ 1099511627776) :
    SatO Tryz.prog F2072 #[v, .func (.func gf) #[] #[]] H [row v T85 3 ps.length (cellsP ps)] (fun r H' q => r = .tuple #[] ∧ H' = H ∧ ∃ ps', ps'.Perm ps ∧ ps'.Pairwise (fun x y => ¬ ltR y.1 x.1) ∧ q = [row v T85 3 ps'.length (cellsP ps')]) :=
  sortRules (P := Tryz.prog) Tryz.layR (fun w => ty85.run_isAgg w) (fun w => ty85.run_sizeOf w) gf hg H T85 hord ps hps v (by omega)
theorem sortI_spec (xs : List Int) (v : Value) (H : View) (hlen : xs.length ≤ 1099511627776) :
    SatO Tryz.prog F2039 #[v] H [row v T3 1 xs.length (ints xs)] (fun r H' q => r = .tuple #[] ∧ H' = H ∧ ∃ ys, ys.Perm xs ∧ ys.Pairwise (· ≤ ·) ∧ q = [row v T3 1 ys.length (ints ys)]) :=
  sortInts (P := Tryz.prog) Tryz.layI H T3 xs v (by omega)
theorem orderV_spec (H : View) (r s : Rl) (v u : Value) (h1 : RVok H (r, v)) (h2 : RVok H (s, u)) : Sat Tryz.prog F2050 #[.agg #[.int .i64 r.sym, v, .int .i64 r.to], .agg #[.int .i64 s.sym, u, .int .i64 s.to]] H (fun x _ => x = .int .i64 (ordR r s)) := by
  obtain ⟨a, cp, e⟩ := h1.1.shape
  obtain ⟨a2, cp2, e2⟩ := h2.1.shape
  dsimp only at e e2
  subst e e2
  exact order_spec r s a a2 cp cp2 H h1.1 h2.1 h1.2.1 h2.2.1

theorem eqO_spec (H : View) (p q : Rl × Value) (h1 : RVok H p) (h2 : RVok H q) : Sat Tryz.prog F2074 #[.agg (cellRV p).toArray, .agg (cellRV q).toArray] H (fun r _ => r = .bool (eqP p q)) := by
  refine enterO (n := 9) (args := [.agg (cellRV p).toArray, .agg (cellRV q).toArray]) Tryz.func105 rfl rfl rfl fun w0 => ?_
  refine K_seq ?_
  refine K_region ?_
  refine KA (A_box rfl) rfl fun b2 => ?_
  refine KA (A_box rfl) rfl fun b3 => ?_
  refine KV (R_assign rfl) rfl ?_
  refine K_nil ?_
  refine Q_then ?_
  refine K_seq ?_
  refine K_region ?_
  refine KV (R_loadW ty85 1 rfl rfl rfl rfl) rfl ?_
  refine KV (R_loadW ty85 0 rfl rfl rfl rfl) rfl ?_
  refine K_call c2050 rfl rfl (orderV_spec H p.1 q.1 p.2 q.2 h1 h2) ?_
  rintro _ V1 hv1 rfl
  refine KV (R_cmp rfl rfl rfl) rfl ?_
  refine KV (R_assign rfl) rfl ?_
  refine K_nil ?_
  refine Q_then ?_
  refine K_ret ?_
  refine results_gen (rs := [.tmp 4]) (vs := [_]) rfl ⟨rfl, trivial⟩ ?_
  rfl

theorem eqO2_spec (H : View) (p q : Rl × Value) (h1 : RVok H p) (h2 : RVok H q) : Sat Tryz.prog F2049 #[.agg (cellRV p).toArray, .agg (cellRV q).toArray] H (fun r _ => r = .bool (eqP p q)) := by
  refine enterO (n := 9) (args := [.agg (cellRV p).toArray, .agg (cellRV q).toArray]) Tryz.func74 rfl rfl rfl fun w0 => ?_
  refine K_seq ?_
  refine K_region ?_
  refine KA (A_box rfl) rfl fun b2 => ?_
  refine KA (A_box rfl) rfl fun b3 => ?_
  refine KV (R_assign rfl) rfl ?_
  refine K_nil ?_
  refine Q_then ?_
  refine K_seq ?_
  refine K_region ?_
  refine KV (R_loadW ty85 1 rfl rfl rfl rfl) rfl ?_
  refine KV (R_loadW ty85 0 rfl rfl rfl rfl) rfl ?_
  refine K_call c2050 rfl rfl (orderV_spec H p.1 q.1 p.2 q.2 h1 h2) ?_
  rintro _ V1 hv1 rfl
  refine KV (R_cmp rfl rfl rfl) rfl ?_
  refine KV (R_assign rfl) rfl ?_
  refine K_nil ?_
  refine Q_then ?_
  refine K_ret ?_
  refine results_gen (rs := [.tmp 4]) (vs := [_]) rfl ⟨rfl, trivial⟩ ?_
  rfl

theorem nclone_spec (a : Au) (vr vu vf : Value) (H : View) (ha : RepAu H a vr vu vf) : SatO Tryz.prog F2037 #[.agg #[vr, .int .i64 a.states, vu, vf]] H [] (fun r H' q => OwnAu H' T3 T85 a r q ∧ True) := by
  obtain ⟨ra, rcp, rfl⟩ := ha.r.shape
  obtain ⟨fa, fcp, rfl⟩ := ha.f.shape
  obtain ⟨ua, ucp, rfl⟩ := ha.ushape
  have hrl := ha.rl
  have hul := ha.ul
  have hfl := ha.fl
  refine enterO (n := 37) (args := [.agg #[.slice ra a.ranks.length rcp, .int .i64 a.states, .slice ua a.rules.length ucp, .slice fa a.final.length fcp]]) Tryz.func48 rfl rfl rfl fun w0 => ?_
  refine K_seq ?_
  refine K_region ?_
  refine KA (A_box rfl) rfl fun b1 => ?_
  refine KA (A_alloc z50) rfl fun b2 => ?_
  refine K_nil ?_
  refine Q_then ?_
  refine K_seq ?_
  refine K_regionD (fin := true) (R := [0, 1, 3, 4, 5, 6, 2, 7, 8, 9, 10]) (by kernel_rfl) mixed (.cons _ (.cons_cons _ (List.nil_sublist _))) ?_
  refine D_val rfl rfl rfl (R_fieldAddr 0 fd50_0 rfl) ?_
  refine D_val rfl rfl rfl (R_loadO ty47 0 rfl rfl rfl rfl (fun _ => rfl) rfl) ?_
  refine D_val rfl rfl rfl (R_fieldAddr 1 fd50_1 rfl) ?_
  refine D_val rfl rfl rfl (R_loadO ty3 0 rfl rfl rfl rfl (fun _ => rfl) rfl) ?_
  refine D_val rfl rfl rfl (R_fieldAddr 3 fd50_3 rfl) ?_
  refine D_val rfl rfl rfl (R_loadO ty25 0 rfl rfl rfl rfl (fun _ => rfl) rfl) ?_
  refine D_call rfl rfl c45 rfl ⟨⟨1, rfl⟩, trivial⟩ (clone47_spec a.ranks _ H ha.r hrl) ?_
  rintro _ V0 hv0 hcr
  obtain ⟨ca, cc, rfl⟩ := hcr.shape
  refine D_callO (first := []) [] _ rfl rfl c65 rfl rfl (List.Perm.refl _) ⟨⟨1, rfl⟩, trivial⟩ (clone25o_spec [] a.final _ V0 (ha.mono hv0).f.1.rd hfl).rowshape ?_
  rintro _ V1 q13 hv1 ⟨f13, fc13, rfl, rfl⟩
  dsimp only [List.cons_append, List.nil_append]
  refine D_val rfl rfl rfl (R_build z50 pl50 rfl rfl) ?_
  refine D_alloc rfl rfl rfl (A_alloc z50) fun b3 => ?_
  refine D_lastStore ty50 0 rfl rfl rfl rfl rfl rfl rfl rfl ?_
  refine Q_then ?_
  refine K_seq ?_
  refine K_seq ?_
  refine K_region ?_
  refine KV (R_fieldAddr 2 fd50_2 rfl) rfl ?_
  refine KV (R_loadO ty48 3 rfl rfl rfl rfl (fun _ => rfl) rfl) rfl ?_
  refine KV (R_len sl48 rfl) rfl ?_
  refine KV (R_move rfl) rfl ?_
  refine K_nil ?_
  refine Q_then ?_
  refine K_block ?_
  refine K_nilrow T85 3 ?_
  refine KC_many_nil ?_
  refine K_loopD (G := Nat × View × Value × (List (Rl × Value))) [5, 18, 19, 20, 21, 22, 23, 24, 25, 26, 27, 28, 29, 30, 31, 32, 33, 34, 35] (fun g => [(18, .int .i64 (g.1 : Int))]) (fun hl g => (((hl.set 0 (many (rowsFrom T3 g.2.2.2))).set 1 (row g.2.2.1 T85 3 g.1 (cellsP g.2.2.2))).set 2 (blk b3 (.cells #[.slice ca a.ranks.length cc, .int .i64 a.states, g.2.2.1, .slice f13 a.final.length fc13] T50 (0, 0))))) (fun g => g.2.1) (fun g => (g.1 ≤ a.rules.length) ∧ (VLe V1 g.2.1) ∧ (g.2.2.2.map (·.1) = a.rules.take g.1) ∧ (∃ ad cp, g.2.2.1 = .slice ad g.1 cp)) (fun g => a.rules.length - g.1) (0, V1, nilS, []) ⟨Nat.zero_le _, VLe.refl _, rfl, none, 0, rfl⟩ ⟨rfl, trivial⟩ (by simp only [args0, Nat.reduceAdd, del, memN, beqN, Nat.reduceBEq, cond_true, cond_false]; rfl) rfl rfl ?_
  rintro ⟨k, V, w, ps⟩ ⟨hk, hV, hps, hw⟩
  dsimp only at hk hV hps hw
  dsimp only [List.set, List.cons_append, List.nil_append]
  obtain ⟨wa, wcp, rfl⟩ := hw
  refine K_seq ?_
  refine K_region ?_
  refine KV (R_cmp rfl rfl rfl) rfl ?_
  refine K_nil ?_
  refine Q_then ?_
  refine K_seq ?_
  refine K_if rfl (fun h19 => ?_) (fun h19 => ?_)
  ·
    have hk' : k < a.rules.length := by omega
    obtain ⟨ub, uo, ucp2, xa, xcp, hue, hrc, hsr, hsym, hto, hxl⟩ := (ha.mono (hv0.trans (hv1.trans hV))).rule hk'
    cases hue
    refine K_skip ?_
    refine Q_then ?_
    refine K_seq ?_
    refine K_block ?_
    refine K_seq ?_
    refine K_region ?_
    refine KV (R_indexN sl48 ty85 rfl rfl (by omega)) rfl ?_
    refine KV (R_loadH ty85 rfl (hrc) rfl (fun e => by cases e) rfl) rfl ?_
    refine KA (A_alloc z85) rfl fun b5 => ?_
    refine K_storeW ty85 0 rfl rfl rfl rfl rfl rfl rfl ?_
    refine K_nil ?_
    refine Q_then ?_
    refine K_regionD (fin := true) (R := [0, 1, 2, 3, 4, 5, 7, 8, 6, 9, 10, 11, 12, 13]) (by kernel_rfl) mixed (.cons_cons _ (.cons _ (.cons _ (.cons_cons _ (.cons _ (.cons _ (.cons_cons _ (List.nil_sublist _)))))))) ?_
    refine D_val rfl rfl rfl (R_fieldAddr 2 fd50_2 rfl) ?_
    refine D_val rfl rfl rfl (R_loadO ty48 1 rfl rfl rfl rfl (fun _ => rfl) rfl) ?_
    refine D_val rfl rfl rfl (R_fieldAddr 0 fd85_0 rfl) ?_
    refine D_val rfl rfl rfl (R_loadO ty3 0 rfl rfl rfl rfl (fun _ => rfl) rfl) ?_
    refine D_val rfl rfl rfl (R_fieldAddr 1 fd85_1 rfl) ?_
    refine D_val rfl rfl rfl (R_loadO ty25 0 rfl rfl rfl rfl (fun _ => rfl) rfl) ?_
    refine D_val rfl rfl rfl (R_fieldAddr 2 fd85_2 rfl) ?_
    refine D_val rfl rfl rfl (R_loadO ty3 0 rfl rfl rfl rfl (fun _ => rfl) rfl) ?_
    refine D_callO (first := []) [] _ rfl rfl c65 rfl rfl (List.Perm.refl _) ⟨⟨0, rfl⟩, ⟨3, rfl⟩, ⟨6, rfl⟩, trivial⟩ (clone25o_spec [] a.rules[k].args _ V hsr.1.rd hxl).rowshape ?_
    rintro _ U q28 hU ⟨f28, fc28, rfl, rfl⟩
    dsimp only [List.cons_append, List.nil_append]
    refine D_val rfl rfl rfl (R_build z85 pl85 rfl rfl) ?_
    refine D_alloc rfl rfl rfl (A_buildSlice (vs := [.agg #[.int .i64 a.rules[k].sym, .slice f28 a.rules[k].args.length fc28, .int .i64 a.rules[k].to]]) sl48 ty85 z85 rfl rfl (by simp [Value.cells]) (by simp) rfl (by decide)) fun b32 => ?_
    refine D_append1 3 ap48 rfl rfl rfl rfl rfl rfl ⟨⟨1, rfl⟩, ⟨3, rfl⟩, ⟨6, rfl⟩, trivial⟩ rfl rfl ⟨by omega, by omega⟩ fun a33 k33 hn33 => ?_
    refine D_val rfl rfl rfl (R_fieldAddr 2 fd50_2 rfl) ?_
    refine D_lastStore ty48 4 rfl rfl rfl rfl rfl rfl rfl rfl ?_
    refine KQ_front 3 rfl ?_
    refine KQ_front 2 rfl ?_
    refine KQ_many_snoc ?_
    dsimp only [List.eraseIdx]
    refine Q_block ?_
    refine Q_then ?_
    refine K_region ?_
    refine KV (R_add rfl rfl (by omega)) rfl ?_
    refine KV (R_move rfl) rfl ?_
    refine K_nil ?_
    refine KQ_sel [0, 0, 1, 1, 1, 1] rfl ?_
    refine Q_nextD (k + 1, U, .slice a33 (k + 1) k33, ps ++ [(a.rules[k], .slice f28 a.rules[k].args.length fc28)]) ⟨hk', hV.trans hU, by rw [List.take_succ_eq_append_getElem hk', List.map_append, hps]; rfl, _, _, rfl⟩ (by (try dsimp only); omega) ⟨rfl, trivial⟩ rfl (by dsimp only [List.set]; rw [rowsFrom_snoc, cellsP_snoc]; rfl) rfl
  ·
    have hk' : k = a.rules.length := by omega
    subst hk'
    rw [List.take_length] at hps
    have hpl : ps.length = a.rules.length := by rw [← hps]; simp
    refine K_exit ?_
    refine Q_then_exit ?_
    refine Q_then_exit ?_
    refine Q_block_exit ?_
    refine Q_then ?_
    refine K_seq ?_
    refine K_region ?_
    refine KV (R_loadO ty50 2 rfl rfl rfl rfl (fun e => by cases e) rfl) rfl ?_
    refine K_store ty50 4 rfl rfl rfl rfl rfl rfl ?_
    refine K_nil ?_
    refine Q_then ?_
    refine K_ret ?_
    refine results_sel [1, 2, 0] rfl (rs := [.cell 2 37]) (vs := [_]) rfl ⟨⟨_, _, _, _, _, _, 4, rfl, rfl, ty50, (fun e => by cases e), rfl, rfl⟩, trivial⟩ ?_
    refine ⟨⟨_, wa, wcp, f13, fc13, ps, ?_, hcr.mono (hv1.trans hV), hps, ?_⟩, trivial⟩
    · rw [hpl]; rfl
    · rw [hpl]
end Go.Proofs.X

namespace Go.Proofs.X
open Go Pal Go.Proofs
attribute [local irreducible] Pal.KO Pal.KC Pal.KQ Pal.KD
theorem c2037 : callable Tryz.prog F2037 = true := by kernel_rfl
theorem c2039 : callable Tryz.prog F2039 = true := by kernel_rfl
theorem c2072 : callable Tryz.prog F2072 = true := by kernel_rfl
theorem c2073 : callable Tryz.prog F2073 = true := by kernel_rfl
theorem c2074 : callable Tryz.prog F2074 = true := by kernel_rfl
theorem c2075 : callable Tryz.prog F2075 = true := by kernel_rfl
theorem sortOwn_spec (ps : List (Rl × Value)) (hb : ∀ p ∈ ps, RlB p.1) (v : Value) (H : View) (hlen : ps.length ≤ 1099511627776) :
    SatO Tryz.prog F2072 #[v, .func (.func F2050) #[] #[]] H [row v T85 3 ps.length (cellsP ps), many (rowsFrom T3 ps)] (fun r H' q => r = .tuple #[] ∧ H' = H ∧ ∃ ps', ps'.Perm ps ∧ ps'.Pairwise (fun x y => ¬ ltR y.1 x.1) ∧ q = [row v T85 3 ps'.length (cellsP ps'), many (rowsFrom T3 ps')]) := by
  have h := SatO.lend (P := Tryz.prog) (f := F2072) (args := #[v, .func (.func F2050) #[] #[]]) (H := H) (hl := [row v T85 3 ps.length (cellsP ps)]) [many (rowsFrom T3 ps)]
    (post := fun r q => r = .tuple #[] ∧ ∃ ps', ps'.Perm ps ∧ ps'.Pairwise (fun x y => ¬ ltR y.1 x.1) ∧ q = [row v T85 3 ps'.length (cellsP ps')])
    (fun H2 _ hh => (sortR_spec F2050 c2050 H2 (orderV_spec H2) ps (rv_of_many (hh _ (List.mem_cons_self ..)) hb) v hlen).mono' (fun _ _ _ h => ⟨h.1, h.2.2⟩))
  intro w hw
  refine Calls.mono (h w hw) ?_
  rintro e w' ⟨r, H', q, rfl, hok, rfl, q', rfl, rfl, ps', hp, hs, rfl⟩
  refine ⟨_, H', _, rfl, ?_, rfl, rfl, ps', hp, hs, rfl⟩
  have h2 : Ok _ w' H' (many (rowsFrom T3 ps) :: [row v T85 3 ps'.length (cellsP ps')]) := hok.perm (List.Perm.swap _ _ _)
  exact (h2.many_perm (p' := rowsFrom T3 ps') (hp.symm.map _)).perm (List.Perm.swap _ _ _)
theorem compactOwn_spec (gf : Nat) (hct : callable Tryz.prog gf = true) (heq : ∀ (H : View) (p q : Rl × Value), RVok H p → RVok H q → Sat Tryz.prog gf #[.agg (cellRV p).toArray, .agg (cellRV q).toArray] H (fun r _ => r = .bool (eqP p q))) (ps : List (Rl × Value)) (hb : ∀ p ∈ ps, RlB p.1) (v : Value) (H : View) (hlen : ps.length ≤ 1099511627776) :
    SatO Tryz.prog F2073 #[v, .func (.func gf) #[] #[]] H [row v T85 3 ps.length (cellsP ps), many (rowsFrom T3 ps)] (fun r H' q => H' = H ∧ ∃ a cap, r = .slice a (compF eqP none ps).length cap ∧ q = [row r T85 3 (compF eqP none ps).length (cellsP (compF eqP none ps)), many (rowsFrom T3 (compF eqP none ps))]) := by
  have h := SatO.lend (P := Tryz.prog) (f := F2073) (args := #[v, .func (.func gf) #[] #[]]) (H := H) (hl := [row v T85 3 ps.length (cellsP ps)]) [many (rowsFrom T3 ps)]
    (post := fun r q => ∃ a cap, r = .slice a (compF eqP none ps).length cap ∧ q = [row r T85 3 (compF eqP none ps).length (cellsP (compF eqP none ps))])
    (fun H2 _ hh => compactR_spec ps v H2 gf hct (rv_of_many (hh _ (List.mem_cons_self ..)) hb) (fun H3 p q _ h1 h2 => heq H3 p q h1 h2) hlen)
  intro w hw
  refine Calls.mono (h w hw) ?_
  rintro e w' ⟨r, H', q, rfl, hok, rfl, q', rfl, a, cap, rfl, rfl⟩
  refine ⟨_, H', _, rfl, ?_, rfl, a, cap, rfl, rfl⟩
  have h2 : Ok _ w' H' (many (rowsFrom T3 ps) :: [row (.slice a (compF eqP none ps).length cap) T85 3 (compF eqP none ps).length (cellsP (compF eqP none ps))]) := hok.perm (List.Perm.swap _ _ _)
  exact (h2.many_sub (p' := rowsFrom T3 (compF eqP none ps)) ((compF_sublist eqP none ps).map _)).perm (List.Perm.swap _ _ _)

theorem sorted_spec (a : Au) (vr vu vf : Value) (H : View) (ha : RepAu H a vr vu vf) : SatO Tryz.prog F2045 #[.agg #[vr, .int .i64 a.states, vu, vf]] H [] (fun r H' q => OwnAu H' T3 T85 (normA a) r q ∧ True) := by
  obtain ⟨ra, rcp, rfl⟩ := ha.r.shape
  obtain ⟨fa, fcp, rfl⟩ := ha.f.shape
  obtain ⟨ua, ucp, rfl⟩ := ha.ushape
  have hab := ha.b
  have hul := ha.ul
  have hfl := ha.fl
  refine enterO (n := 20) (args := [.agg #[.slice ra a.ranks.length rcp, .int .i64 a.states, .slice ua a.rules.length ucp, .slice fa a.final.length fcp]]) Tryz.func64 rfl rfl rfl fun w0 => ?_
  refine K_seq ?_
  refine K_region ?_
  refine KA (A_box rfl) rfl fun b1 => ?_
  refine KA (A_alloc z50) rfl fun b2 => ?_
  refine K_nil ?_
  refine Q_then ?_
  refine K_seq ?_
  refine K_region ?_
  refine KV (R_loadW ty50 1 rfl rfl rfl rfl) rfl ?_
  refine K_callO (first := []) [] _ (List.Perm.refl _) c2037 rfl rfl rfl (nclone_spec a _ _ _ H ha) ?_
  rintro _ V1 q hv1 ⟨⟨xr, ua2, uc2, fa2, fc2, ps, rfl, hxr, hps, rfl⟩, _⟩
  dsimp only [List.cons_append, List.nil_append]
  obtain ⟨xa, xc, rfl⟩ := hxr.shape
  have hpl : ps.length = a.rules.length := by rw [← hps]; simp
  have hpb : ∀ p ∈ ps, RlB p.1 := fun p hp => hab.u p.1 (by rw [← hps]; exact List.mem_map.2 ⟨p, hp, rfl⟩)
  refine K_storeW ty50 4 rfl rfl rfl rfl rfl rfl rfl ?_
  refine K_nil ?_
  refine Q_then ?_
  refine K_seq ?_
  refine K_region ?_
  refine KV (R_fieldAddr 2 fd50_2 rfl) rfl ?_
  refine KV (R_loadO ty48 4 rfl rfl rfl rfl (fun _ => rfl) rfl) rfl ?_
  refine KO_sel [0, 1, 0, 0, 0] rfl ?_
  refine K_callO (first := []) [_, _] _ (List.Perm.refl _) c2072 rfl rfl rfl (sortOwn_spec ps hpb _ V1 (by omega)) ?_
  rintro _ V2 q hv2 ⟨rfl, rfl, ps2, hp2, hs2, rfl⟩
  dsimp only [List.cons_append, List.nil_append]
  have hpb2 : ∀ p ∈ ps2, RlB p.1 := fun p hp => hpb p (hp2.mem_iff.1 hp)
  have hpl2 : ps2.length = ps.length := hp2.length_eq
  refine K_nil ?_
  refine Q_then ?_
  refine K_seq ?_
  refine K_region ?_
  refine KV (R_fieldAddr 2 fd50_2 rfl) rfl ?_
  refine KV (R_loadO ty48 4 rfl rfl rfl rfl (fun _ => rfl) rfl) rfl ?_
  refine K_callO (first := []) [_, _] _ (List.Perm.refl _) c2073 rfl rfl rfl (by rw [← hpl2]; exact compactOwn_spec F2074 c2074 eqO_spec ps2 hpb2 _ V2 (by omega)) ?_
  rintro _ V3 q hv3 ⟨rfl, ua3, uc3, rfl, rfl⟩
  dsimp only [List.cons_append, List.nil_append]
  have hps3 : (compF eqP none ps2).map (·.1) = sortO a.rules := by
    rw [comp_rules hs2, ← hps]
    exact sortO_congr fun x => (hp2.map _).mem_iff
  have hpl3 := congrArg List.length hps3
  rw [List.length_map] at hpl3
  refine KV (R_fieldAddr 2 fd50_2 rfl) rfl ?_
  refine K_store ty48 4 rfl rfl rfl rfl rfl rfl ?_
  refine K_nil ?_
  refine Q_then ?_
  refine K_seq ?_
  refine K_region ?_
  refine KV (R_fieldAddr 3 fd50_3 rfl) rfl ?_
  refine KV (R_loadO ty25 4 rfl rfl rfl rfl (fun _ => rfl) rfl) rfl ?_
  refine KO_sel [2, 0, 0, 0, 0] rfl ?_
  refine K_callO (first := []) [_] _ (List.Perm.refl _) c2039 rfl rfl rfl (sortI_spec a.final _ V3 (by omega)) ?_
  rintro _ V4 q hv4 ⟨rfl, rfl, fs, hf1, hf2, rfl⟩
  dsimp only [List.cons_append, List.nil_append]
  have hfl2 : fs.length = a.final.length := hf1.length_eq
  refine K_nil ?_
  refine Q_then ?_
  refine K_seq ?_
  refine K_region ?_
  refine KV (R_fieldAddr 3 fd50_3 rfl) rfl ?_
  refine KV (R_loadO ty25 4 rfl rfl rfl rfl (fun _ => rfl) rfl) rfl ?_
  refine K_callO (first := []) [_] _ (List.Perm.refl _) c2075 rfl rfl rfl (by rw [← hfl2]; exact compactI_spec fs _ V4 (by omega)) ?_
  rintro _ V5 q hv5 ⟨fa3, fc3, rfl, rfl⟩
  dsimp only [List.cons_append, List.nil_append]
  have hfs : compF eqI none fs = sortI a.final := (comp_ints hf2).trans (sortI_congr fun x => hf1.mem_iff)
  rw [hfs]
  refine KV (R_fieldAddr 3 fd50_3 rfl) rfl ?_
  refine K_store ty25 4 rfl rfl rfl rfl rfl rfl ?_
  refine K_nil ?_
  refine Q_then ?_
  refine K_seq ?_
  refine K_region ?_
  refine KV (R_loadW ty50 4 rfl rfl rfl rfl) rfl ?_
  refine K_storeW ty50 3 rfl rfl rfl rfl rfl rfl rfl ?_
  refine K_nil ?_
  refine Q_then ?_
  refine K_ret ?_
  refine results_sel [1, 0, 0] rfl (rs := [.cell 2 37]) (vs := [_]) rfl ⟨⟨_, _, _, _, _, _, 3, rfl, rfl, ty50, (fun e => by cases e), rfl, rfl⟩, trivial⟩ ?_
  refine ⟨⟨_, ua3, uc3, fa3, fc3, compF eqP none ps2, ?_, hxr.mono hv5, hps3, ?_⟩, trivial⟩
  · rw [hpl3]; rfl
  · rfl
end Go.Proofs.X

namespace Go.Proofs.X
open Go Pal Go.Proofs
attribute [local irreducible] Pal.KO Pal.KC Pal.KQ Pal.KD
theorem z48 : zeroOk Tryz.prog T48 (.slice none 0 0) := .of (by kernel_rfl)
theorem c2045 : callable Tryz.prog F2045 = true := by kernel_rfl
theorem mt2031 : Tryz.prog.underlying T2031 = some (.map T3 T48) := by kernel_rfl
theorem sortedP_spec (a : Au) (vr vu vf : Value) (H : View) (ha : RepAu H a vr vu vf) : SatO Tryz.prog F2045 #[.agg #[vr, .int .i64 a.states, vu, vf]] H [] (fun r H' q => q = [] ∧ (∃ v1 v2 v3, r = .agg #[v1, .int .i64 a.states, v2, v3] ∧ RepAu H' (normA a) v1 v2 v3) ∧ True) :=
  SatO.pub_au (a := normA a) ha.b.norm (sorted_spec a vr vu vf H ha)

theorem book_spec (a : Au) (vr vu vf : Value) (H : View) (ha : RepAu H a vr vu vf) : Sat Tryz.prog F2053 #[.agg #[vr, .int .i64 a.states, vu, vf]] H (fun r H' => BookAt H' r (sortO a.rules)) := by
  obtain ⟨ra, rcp, rfl⟩ := ha.r.shape
  obtain ⟨fa, fcp, rfl⟩ := ha.f.shape
  obtain ⟨ua, ucp, rfl⟩ := ha.ushape
  have hul := ha.ul
  have hsl := sortO_len a.rules
  refine enterO (n := 27) (args := [.agg #[.slice ra a.ranks.length rcp, .int .i64 a.states, .slice ua a.rules.length ucp, .slice fa a.final.length fcp]]) Tryz.func80 rfl rfl rfl fun w0 => ?_
  refine K_seq ?_
  refine K_region ?_
  refine KA (A_box rfl) rfl fun b1 => ?_
  refine KV (R_assign rfl) rfl ?_
  refine K_nil ?_
  refine Q_then ?_
  refine K_seq ?_
  refine K_region ?_
  refine KA (A_makeMap) rfl fun b6 => ?_
  refine KV (R_assign rfl) rfl ?_
  refine K_nil ?_
  refine Q_then ?_
  refine K_seq ?_
  refine K_seq ?_
  refine K_region ?_
  refine KV (R_loadW ty50 1 rfl rfl rfl rfl) rfl ?_
  refine K_callO (first := []) [] _ (List.Perm.refl _) c2045 rfl rfl rfl (sortedP_spec a _ _ _ H ha) ?_
  rintro _ V1 q hv1 ⟨rfl, ⟨v1, v2, v3, rfl, hN⟩, _⟩
  dsimp only [List.nil_append]
  have hR0 : RulesAt V1 v2 (sortO a.rules) := hN.rules
  obtain ⟨na, ncp, rfl⟩ := hR0.shape
  refine KV (R_fieldC (o := 2) (ft := T48) (by kernel_rfl) ty48 rfl rfl) rfl ?_
  refine KV (R_len sl48 rfl) rfl ?_
  refine KV (R_move rfl) rfl ?_
  refine K_nil ?_
  refine Q_then ?_
  refine K_block ?_
  refine K_nilrow T85 3 ?_
  refine K_loopD (G := Nat × View × KVs × Option Int × Value × (List (Rl × Value)) × Nat) [5, 11, 12, 13, 14, 15, 16, 17, 18, 19, 20, 21, 22, 23, 24, 25] (fun g => [(11, .int .i64 (g.1 : Int))]) (fun hl g => ((hl.set 0 (row g.2.2.2.2.1 T85 3 g.2.2.2.2.2.2 (cellsP g.2.2.2.2.2.1))).set 1 (blk b6 (mapOb (g.2.2.1 ++ curK g.2.2.2.1 g.2.2.2.2.1))))) (fun g => g.2.1) (fun g => (g.1 ≤ (sortO a.rules).length) ∧ (VLe V1 g.2.1) ∧ (BkI g.2.1 (sortO a.rules) g.1 g.2.2.1 g.2.2.2.1 g.2.2.2.2.1 g.2.2.2.2.2.1) ∧ (∃ ad cp, g.2.2.2.2.1 = .slice ad g.2.2.2.2.2.2 cp) ∧ (g.2.2.2.2.2.1.length = g.2.2.2.2.2.2)) (fun g => (sortO a.rules).length - g.1) (0, V1, [], none, nilS, [], 0) ⟨Nat.zero_le _, VLe.refl _, BkI.start _ _, ⟨none, 0, rfl⟩, rfl⟩ ⟨rfl, trivial⟩ (by simp only [args0, Nat.reduceAdd, del, memN, beqN, Nat.reduceBEq, cond_true, cond_false]; rfl) rfl rfl ?_
  rintro ⟨k, V, kv0, cur, w, ps, m⟩ ⟨hk, hV, hB, hw, hm⟩
  dsimp only at hk hV hB hw hm
  dsimp only [List.set, List.cons_append, List.nil_append]
  obtain ⟨wa, wcp, rfl⟩ := hw
  have hBl := hB.len
  refine K_seq ?_
  refine K_region ?_
  refine KV (R_cmp rfl rfl rfl) rfl ?_
  refine K_nil ?_
  refine Q_then ?_
  refine K_seq ?_
  refine K_if rfl (fun h12 => ?_) (fun h12 => ?_)
  ·
    have hk' : k < (sortO a.rules).length := by omega
    obtain ⟨ub, uo, va, hue, hrc, hrv⟩ := (hR0.mono hV).elem hk'
    cases hue
    obtain ⟨xa, xcp, hxe⟩ := hrv.1.shape
    dsimp only at hxe
    subst hxe
    refine K_skip ?_
    refine Q_then ?_
    refine K_seq ?_
    refine K_block ?_
    refine K_seq ?_
    refine K_region ?_
    refine KV (R_indexN sl48 ty85 rfl rfl (by omega)) rfl ?_
    refine KV (R_loadH ty85 rfl (hrc) rfl (fun e => by cases e) rfl) rfl ?_
    refine KA (A_alloc z85) rfl fun b5 => ?_
    refine K_storeW ty85 0 rfl rfl rfl rfl rfl rfl rfl ?_
    refine K_nil ?_
    refine Q_then ?_
    by_cases hsame : cur = some (sortO a.rules)[k].sym
    ·
      subst hsame
      have hne : ∀ p ∈ kv0, p.1 ≠ (sortO a.rules)[k].sym := fun p hp => by have := hB.below p hp _ rfl; omega
      have hlk : (lookI (kv0 ++ curK (some (sortO a.rules)[k].sym) (.slice wa m wcp)) (sortO a.rules)[k].sym).getD nilS = .slice wa m wcp := by
        simp only [curK]
        rw [lookI_snoc hne, if_pos rfl]; rfl
      refine K_regionD (fin := true) (R := [0, 1, 2, 3, 4, 5, 6, 7, 8, 9, 10]) (by kernel_rfl) mixed (.cons_cons _ (.cons _ (.cons_cons _ (.cons_cons _ (List.nil_sublist _))))) ?_
      refine D_val rfl rfl rfl (R_move rfl) ?_
      refine D_val rfl rfl rfl (R_fieldAddr 0 fd85_0 rfl) ?_
      refine D_val rfl rfl rfl (R_loadO ty3 0 rfl rfl rfl rfl (fun _ => rfl) rfl) ?_
      refine D_val rfl rfl rfl (R_move rfl) ?_
      refine D_val rfl rfl rfl (R_fieldAddr 0 fd85_0 rfl) ?_
      refine D_val rfl rfl rfl (R_loadO ty3 0 rfl rfl rfl rfl (fun _ => rfl) rfl) ?_
      refine D_val rfl rfl rfl (R_lookV mt2031 (by kernel_rfl) z48 rfl rfl (MapAt.at 1 rfl) hlk) ?_
      refine D_val rfl rfl rfl (R_loadW ty85 0 rfl rfl rfl rfl) ?_
      refine D_alloc rfl rfl rfl (A_buildSlice (vs := [.agg #[.int .i64 (sortO a.rules)[k].sym, .slice xa (sortO a.rules)[k].args.length xcp, .int .i64 (sortO a.rules)[k].to]]) sl48 ty85 z85 rfl rfl (by simp [Value.cells]) (by simp) rfl (by decide)) fun b23 => ?_
      refine D_append1 1 ap48 rfl rfl rfl rfl rfl rfl ⟨⟨0, rfl⟩, ⟨1, rfl⟩, ⟨2, rfl⟩, trivial⟩ rfl rfl ⟨by omega, by omega⟩ fun a24 k24 hn24 => ?_
      refine D_lastSet mt2031 (by kernel_rfl) 2 rfl rfl rfl rfl rfl rfl ?_
      refine Q_block ?_
      refine Q_then ?_
      refine K_region ?_
      refine KV (R_add rfl rfl (by omega)) rfl ?_
      refine KV (R_move rfl) rfl ?_
      refine K_nil ?_
      refine KQ_sel [0, 1, 1] rfl ?_
      refine Q_nextD (k + 1, V, kv0, some (sortO a.rules)[k].sym, .slice a24 (m + 1) k24, ps ++ [((sortO a.rules)[k], .slice xa (sortO a.rules)[k].args.length xcp)], m + 1) ⟨by dsimp only; omega, hV, hB.same (VLe.refl _) hk' rfl hrv, ⟨_, _, rfl⟩, by simp [hm]⟩ (by (try dsimp only); omega) ⟨rfl, trivial⟩ rfl (by dsimp only [List.set]; rw [cellsP_snoc]; simp only [curK]; rw [setI_last hne]; rfl) rfl
    ·
      refine KC_front 1 rfl ?_
      refine KC_pubrow rfl fun Up hUp hprow => ?_
      have hwR : RulesAt Up (.slice wa m wcp) (ps.map (·.1)) := At.rules (by rw [hm]; exact hprow) ⟨wa, wcp, by rw [hm]⟩ (fun p hp => (hB.rv p hp).mono hUp)
      have hnone : lookI (kv0 ++ curK cur (.slice wa m wcp)) (sortO a.rules)[k].sym = none := (hB.new (w' := nilS) hUp hwR hk' hsame (sortO_rise _) (hrv.mono hUp)).1
      have hlk : (lookI (kv0 ++ curK cur (.slice wa m wcp)) (sortO a.rules)[k].sym).getD nilS = nilS := by rw [hnone]; rfl
      refine K_nilrow T85 3 ?_
      refine KC_sel [1, 0, 0, 0] rfl ?_
      refine K_regionD (fin := true) (R := [0, 1, 2, 3, 4, 5, 6, 7, 8, 9, 10]) (by kernel_rfl) mixed (.cons_cons _ (.cons _ (.cons_cons _ (.cons_cons _ (List.nil_sublist _))))) ?_
      refine D_val rfl rfl rfl (R_move rfl) ?_
      refine D_val rfl rfl rfl (R_fieldAddr 0 fd85_0 rfl) ?_
      refine D_val rfl rfl rfl (R_loadO ty3 0 rfl rfl rfl rfl (fun _ => rfl) rfl) ?_
      refine D_val rfl rfl rfl (R_move rfl) ?_
      refine D_val rfl rfl rfl (R_fieldAddr 0 fd85_0 rfl) ?_
      refine D_val rfl rfl rfl (R_loadO ty3 0 rfl rfl rfl rfl (fun _ => rfl) rfl) ?_
      refine D_val rfl rfl rfl (R_lookV mt2031 (by kernel_rfl) z48 rfl rfl (MapAt.at 1 rfl) hlk) ?_
      refine D_val rfl rfl rfl (R_loadW ty85 0 rfl rfl rfl rfl) ?_
      refine D_alloc rfl rfl rfl (A_buildSlice (vs := [.agg #[.int .i64 (sortO a.rules)[k].sym, .slice xa (sortO a.rules)[k].args.length xcp, .int .i64 (sortO a.rules)[k].to]]) sl48 ty85 z85 rfl rfl (by simp [Value.cells]) (by simp) rfl (by decide)) fun b23 => ?_
      refine D_append1 1 ap48 rfl rfl rfl rfl rfl rfl ⟨⟨0, rfl⟩, ⟨1, rfl⟩, ⟨2, rfl⟩, trivial⟩ rfl rfl ⟨by omega, by omega⟩ fun a24 k24 hn24 => ?_
      refine D_lastSet mt2031 (by kernel_rfl) 2 rfl rfl rfl rfl rfl rfl ?_
      refine Q_block ?_
      refine Q_then ?_
      refine K_region ?_
      refine KV (R_add rfl rfl (by omega)) rfl ?_
      refine KV (R_move rfl) rfl ?_
      refine K_nil ?_
      refine KQ_sel [0, 1, 1] rfl ?_
      refine Q_nextD (k + 1, Up, kv0 ++ curK cur (.slice wa m wcp), some (sortO a.rules)[k].sym, .slice a24 1 k24, [((sortO a.rules)[k], .slice xa (sortO a.rules)[k].args.length xcp)], 1) ⟨by dsimp only; omega, hV.trans hUp, (hB.new hUp hwR hk' hsame (sortO_rise _) (hrv.mono hUp)).2, ⟨_, _, rfl⟩, rfl⟩ (by (try dsimp only); omega) ⟨rfl, trivial⟩ rfl (by dsimp only [List.set]; rw [setI_none hnone]; rfl) rfl
  ·
    have hk' : k = (sortO a.rules).length := by omega
    subst hk'
    refine K_exit ?_
    refine Q_then_exit ?_
    refine Q_then_exit ?_
    refine Q_block_exit ?_
    refine Q_then ?_
    refine K_seq ?_
    refine K_region ?_
    refine KV (R_move rfl) rfl ?_
    refine KV (R_assign rfl) rfl ?_
    refine K_nil ?_
    refine Q_then ?_
    refine K_ret ?_
    refine KQ_pubrow rfl fun Up hUp hprow => ?_
    refine KQ_pubF fun U2 hU2 hb6 => ?_
    refine results_sel [] rfl (rs := [.tmp 2]) (vs := [_]) rfl ⟨rfl, trivial⟩ ?_
    refine ⟨b6, kv0 ++ curK cur (.slice wa m wcp), rfl, hb6, hB.keys, fun q => ?_⟩
    have h1 := (hB.mono hUp).all (At.rules (by rw [hm]; exact hprow) ⟨wa, wcp, by rw [hm]⟩ (fun p hp => (hB.rv p hp).mono hUp)) q
    rw [List.take_length] at h1
    exact h1.mono hU2
end Go.Proofs.X

namespace Go.Proofs.X
open Go Pal Go.Proofs
attribute [local irreducible] Pal.KO Pal.KC Pal.KQ Pal.KD

theorem mulW_spec (xs ys : List Nat) (v w : Value) (H : View) (hv : UW H v xs) (hw : UW H w ys) (hlx : xs.length ≤ 1048576) (hly : ys.length ≤ 1048576) : Sat Tryz.prog F2036 #[.agg #[v], .agg #[w]] H (fun r H' => ∃ xa k cp, r = .agg #[.slice xa k cp] ∧ RepN H' (.slice xa k cp) (valW xs * valW ys)) := by
  obtain ⟨a, cp, rfl⟩ := hv.shape
  obtain ⟨a2, cp2, rfl⟩ := hw.shape
  refine enterO (n := 73) (args := [.agg #[.slice a xs.length cp], .agg #[.slice a2 ys.length cp2]]) Tryz.func47 rfl rfl rfl fun w0 => ?_
  refine K_seq ?_
  refine K_region ?_
  refine KA (A_box rfl) rfl fun b2 => ?_
  refine KA (A_box rfl) rfl fun b3 => ?_
  refine KA (A_alloc z2009) rfl fun b4 => ?_
  refine K_nil ?_
  refine Q_then ?_
  refine K_seq ?_
  refine K_region ?_
  refine KV (R_fieldAddr 0 fd2009_0 rfl) rfl ?_
  refine KV (R_loadO ty2007 2 rfl rfl rfl rfl (fun _ => rfl) rfl) rfl ?_
  refine KV (R_len sl2007 rfl) rfl ?_
  refine KV (R_fieldAddr 0 fd2009_0 rfl) rfl ?_
  refine KV (R_loadO ty2007 1 rfl rfl rfl rfl (fun _ => rfl) rfl) rfl ?_
  refine KV (R_len sl2007 rfl) rfl ?_
  refine KV (R_add rfl rfl (by omega)) rfl ?_
  rw [show (xs.length : Int) + (ys.length : Int) = ((xs.length + ys.length : Nat) : Int) by omega]
  refine KA (A_makeSlice (k := xs.length + ys.length) ap2007 z164 ty164 rfl rfl (by omega) (by omega)) rfl fun b19 => ?_
  refine KV (R_assign rfl) rfl ?_
  refine K_nil ?_
  rw [show madeCells (Value.int .u32 0).cells ((xs.length + ys.length) * 1) = _ from words_made _]
  refine Q_then ?_
  refine K_seq ?_
  refine K_seq ?_
  refine K_region ?_
  refine KV (R_fieldAddr 0 fd2009_0 rfl) rfl ?_
  refine KV (R_loadO ty2007 3 rfl rfl rfl rfl (fun _ => rfl) rfl) rfl ?_
  refine KV (R_len sl2007 rfl) rfl ?_
  refine KV (R_move rfl) rfl ?_
  refine K_nil ?_
  refine Q_then ?_
  refine K_block ?_
  refine K_loopD (G := Nat × List Nat) [6, 7, 8, 9, 10, 11, 23, 24, 25, 26, 27, 28, 29, 30, 31, 32, 33, 34, 35, 36, 37, 38, 39, 40, 41, 42, 43, 44, 45, 46, 47, 48, 49, 50, 51, 52, 53, 54, 55, 56, 57, 58, 59, 60, 61, 62, 63, 64, 65, 66, 67, 68, 69, 70] (fun g => [(23, .int .i64 (g.1 : Int))]) (fun hl g => (hl.set 0 (blk b19 (.cells (words g.2).toArray T164 (0, 0))))) (fun g => H) (fun g => (g.1 ≤ xs.length) ∧ (MulI xs ys g.2 g.1 0 0)) (fun g => xs.length - g.1) (0, List.replicate (xs.length + ys.length) 0) ⟨Nat.zero_le _, MulI.start xs ys⟩ ⟨rfl, trivial⟩ (by simp only [args0, Nat.reduceAdd, del, memN, beqN, Nat.reduceBEq, cond_true, cond_false]; rfl) rfl rfl ?_
  rintro ⟨i, os⟩ ⟨hi, hM⟩
  dsimp only at hi hM
  dsimp only [List.set, List.cons_append, List.nil_append]
  have hol := hM.len
  refine K_seq ?_
  refine K_region ?_
  refine KV (R_cmp rfl rfl rfl) rfl ?_
  refine K_nil ?_
  refine Q_then ?_
  refine K_seq ?_
  refine K_if rfl (fun h24 => ?_) (fun h24 => ?_)
  ·
    have hi' : i < xs.length := by omega
    obtain ⟨xb, xo, hxe, hxa⟩ := hv.get hi'
    cases hxe
    have hxl := hv.2 _ (List.getElem_mem hi')
    refine K_skip ?_
    refine Q_then ?_
    refine K_seq ?_
    refine K_block ?_
    refine K_seq ?_
    refine K_region ?_
    refine KV (R_move rfl) rfl ?_
    refine KV (R_indexN sl2007 ty164 rfl rfl (by omega)) rfl ?_
    refine KV (R_loadH ty164 rfl (hxa) rfl (fun _ => rfl) rfl) rfl ?_
    refine KV (R_assign rfl) rfl ?_
    refine KV (R_assign rfl) rfl ?_
    refine K_nil ?_
    refine Q_then ?_
    refine K_seq ?_
    refine K_region ?_
    refine KV (R_assign rfl) rfl ?_
    refine K_nil ?_
    refine Q_then ?_
    refine K_seq ?_
    refine K_seq ?_
    refine K_region ?_
    refine KV (R_fieldAddr 0 fd2009_0 rfl) rfl ?_
    refine KV (R_loadO ty2007 2 rfl rfl rfl rfl (fun _ => rfl) rfl) rfl ?_
    refine KV (R_len sl2007 rfl) rfl ?_
    refine KV (R_move rfl) rfl ?_
    refine K_nil ?_
    refine Q_then ?_
    refine K_block ?_
    refine K_loopD (G := Nat × Nat × List Nat) [8, 9, 10, 11, 31, 32, 33, 34, 35, 36, 37, 38, 39, 40, 41, 42, 43, 44, 45, 46, 47, 48, 49, 50, 51, 52, 53, 54, 55, 56, 57, 58, 59, 60] (fun g => [(31, .int .i64 (g.1 : Int)), (8, .int .u64 (g.2.1 : Int))]) (fun hl g => (hl.set 0 (blk b19 (.cells (words g.2.2).toArray T164 (0, 0))))) (fun g => H) (fun g => (g.1 ≤ ys.length) ∧ (MulI xs ys g.2.2 i g.1 g.2.1)) (fun g => ys.length - g.1) (0, 0, os) ⟨Nat.zero_le _, hM⟩ ⟨rfl, rfl, trivial⟩ (by simp only [args0, Nat.reduceAdd, del, memN, beqN, Nat.reduceBEq, cond_true, cond_false]; rfl) rfl rfl ?_
    rintro ⟨k, c, os2⟩ ⟨hk, hM2⟩
    dsimp only at hk hM2
    dsimp only [List.set, List.cons_append, List.nil_append]
    have hol2 := hM2.len
    have hcl := hM2.cl
    refine K_seq ?_
    refine K_region ?_
    refine KV (R_cmp rfl rfl rfl) rfl ?_
    refine K_nil ?_
    refine Q_then ?_
    refine K_seq ?_
    refine K_if rfl (fun h32 => ?_) (fun h32 => ?_)
    ·
      have hk' : k < ys.length := by omega
      obtain ⟨yb, yo, hye, hya⟩ := hw.get hk'
      cases hye
      have hyl := hw.2 _ (List.getElem_mem hk')
      have hj : i + k < os2.length := by omega
      obtain ⟨hs64, hMs⟩ := hM2.step hv.2 hw.2 hi' hk' hj
      have hsh : (xs[i] * ys[k] + os2[i + k] + c) / 2 ^ 32 = (xs[i] * ys[k] + os2[i + k] + c) / 4294967296 := rfl
      refine K_skip ?_
      refine Q_then ?_
      refine K_seq ?_
      refine K_block ?_
      refine K_seq ?_
      refine K_region ?_
      refine KV (R_move rfl) rfl ?_
      refine KV (R_indexN sl2007 ty164 rfl rfl (by omega)) rfl ?_
      refine KV (R_loadH ty164 rfl (hya) rfl (fun _ => rfl) rfl) rfl ?_
      refine KV (R_assign rfl) rfl ?_
      refine KV (R_assign rfl) rfl ?_
      refine K_nil ?_
      refine Q_then ?_
      refine K_seq ?_
      refine K_region ?_
      refine KV (R_move rfl) rfl ?_
      refine KV (R_convII (by kernel_rfl) ⟨_, Tryz.underlying105⟩ rfl (IntWalk.u64_in ((xs[i] : Nat) : Int) (by omega))) rfl ?_
      refine KV (R_move rfl) rfl ?_
      refine KV (R_convII (by kernel_rfl) ⟨_, Tryz.underlying105⟩ rfl (IntWalk.u64_in ((ys[k] : Nat) : Int) (by omega))) rfl ?_
      refine KV (R_arith (r := ((xs[i] * ys[k] : Nat) : Int)) rfl rfl (.inr (.inr ⟨rfl, by rw [IntWalk.u64_in _ (by constructor <;> omega)]; omega⟩))) rfl ?_
      refine KV (R_move rfl) rfl ?_
      refine KV (R_move rfl) rfl ?_
      refine KV (R_move rfl) rfl ?_
      refine KV (R_add rfl rfl (by omega)) rfl ?_
      refine KV (R_indexN (i := i + k) sl2007 ty164 rfl (by show some _ = some _; congr 2) (by omega)) rfl ?_
      refine KV (R_loadC ty164 0 rfl rfl (by simp [words, hj] : ((words os2).toArray)[(0 + (i + k) * 1)]? = some (.int .u32 (os2[i + k] : Int)))) rfl ?_
      refine KV (R_convII (by kernel_rfl) ⟨_, Tryz.underlying105⟩ rfl (IntWalk.u64_in ((os2[i + k] : Nat) : Int) (by omega))) rfl ?_
      refine KV (R_arith (r := ((xs[i] * ys[k] + os2[i + k] : Nat) : Int)) rfl rfl (.inl ⟨rfl, by rw [IntWalk.u64_in _ (by omega)]; omega⟩)) rfl ?_
      refine KV (R_move rfl) rfl ?_
      refine KV (R_arith (r := ((xs[i] * ys[k] + os2[i + k] + c : Nat) : Int)) rfl rfl (.inl ⟨rfl, by rw [IntWalk.u64_in _ (by omega)]; omega⟩)) rfl ?_
      refine KV (R_assign rfl) rfl ?_
      refine K_nil ?_
      refine Q_then ?_
      refine K_region ?_
      refine KV (R_move rfl) rfl ?_
      refine KV (R_move rfl) rfl ?_
      refine KV (R_move rfl) rfl ?_
      refine KV (R_add rfl rfl (by omega)) rfl ?_
      refine KV (R_move rfl) rfl ?_
      refine KV (R_convII (by kernel_rfl) ⟨_, Tryz.underlying62⟩ rfl (r := (((xs[i] * ys[k] + os2[i + k] + c) % 4294967296 : Nat) : Int)) (by rw [IntKind.wrap_u32]; omega)) rfl ?_
      refine KV (R_move rfl) rfl ?_
      refine KV (R_shrU (k := 32) rfl rfl (by decide)) rfl ?_
      refine KV (R_indexN (i := i + k) sl2007 ty164 rfl (by show some _ = some _; congr 2) (by omega)) rfl ?_
      refine K_storeE ty164 0 rfl rfl rfl rfl (by simp [words, Value.cells]; omega) rfl (words_put (j := i + k) (by omega) (by omega)) ?_
      refine KV (R_assign rfl) rfl ?_
      refine K_nil ?_
      refine Q_block ?_
      refine Q_then ?_
      refine K_region ?_
      refine KV (R_add rfl rfl (by omega)) rfl ?_
      refine KV (R_move rfl) rfl ?_
      refine K_nil ?_
      refine Q_nextD (k + 1, (xs[i] * ys[k] + os2[i + k] + c) / 4294967296, os2.set (i + k) ((xs[i] * ys[k] + os2[i + k] + c) % 4294967296)) ⟨by dsimp only; omega, hMs⟩ (by (try dsimp only); omega) ⟨rfl, rfl, trivial⟩ rfl rfl rfl
    ·
      have hk' : k = ys.length := by omega
      subst hk'
      have hMn := hM2.next hi'
      refine K_exit ?_
      refine Q_then_exit ?_
      refine Q_then_exit ?_
      refine Q_block_exit ?_
      refine Q_then ?_
      refine K_region ?_
      refine KV (R_move rfl) rfl ?_
      refine KV (R_move rfl) rfl ?_
      refine KV (R_fieldAddr 0 fd2009_0 rfl) rfl ?_
      refine KV (R_loadO ty2007 2 rfl rfl rfl rfl (fun _ => rfl) rfl) rfl ?_
      refine KV (R_len sl2007 rfl) rfl ?_
      refine KV (R_add rfl rfl (by omega)) rfl ?_
      refine KV (R_move rfl) rfl ?_
      refine KV (R_convII (by kernel_rfl) ⟨_, Tryz.underlying62⟩ rfl (r := ((c : Nat) : Int)) (by rw [IntKind.wrap_u32]; omega)) rfl ?_
      refine KV (R_indexN (i := i + ys.length) sl2007 ty164 rfl (by show some _ = some _; congr 2) (by omega)) rfl ?_
      refine K_storeE ty164 0 rfl rfl rfl rfl (by simp [words, Value.cells]; omega) rfl (words_put (j := i + ys.length) (by omega) (by omega)) ?_
      refine K_nil ?_
      refine Q_block ?_
      refine Q_then ?_
      refine K_region ?_
      refine KV (R_add rfl rfl (by omega)) rfl ?_
      refine KV (R_move rfl) rfl ?_
      refine K_nil ?_
      refine Q_nextD (i + 1, os2.set (i + ys.length) c) ⟨hi', hMn⟩ (by (try dsimp only); omega) ⟨rfl, trivial⟩ rfl rfl rfl
  ·
    have hi' : i = xs.length := by omega
    subst hi'
    have hval := hM.done rfl
    refine K_exit ?_
    refine Q_then_exit ?_
    refine Q_then_exit ?_
    refine Q_block_exit ?_
    refine Q_then ?_
    refine K_seq ?_
    refine K_region ?_
    refine KV (R_move rfl) rfl ?_
    refine KO_front 0 rfl ?_
    refine KO_pubF fun U hU hb19 => ?_
    try dsimp only [List.eraseIdx]
    have hcall := trimW_spec os (some ⟨b19, 0, none⟩) (xs.length + ys.length) U ⟨⟨_, _, rfl, .inr ⟨b19, 0, rfl, At.of hb19⟩⟩, hM.ok⟩ (by omega) (by omega)
    rw [hol] at hcall
    refine K_call c2047 rfl rfl hcall ?_
    rintro _ V1 hv1 ⟨xa, k, rfl, hN⟩
    rw [hval] at hN
    refine K_store ty2009 0 rfl rfl rfl rfl rfl rfl ?_
    refine K_nil ?_
    refine Q_then ?_
    refine K_ret ?_
    refine results_gen (rs := [.cell 4 56]) (vs := [_]) rfl ⟨⟨_, _, _, _, _, _, 0, rfl, rfl, ty2009, (fun e => by cases e), rfl, rfl⟩, trivial⟩ ?_
    exact ⟨_, _, _, rfl, hN⟩

theorem addNN_spec (n m : Nat) (v w : Value) (H : View) (hv : RepN H v n) (hw : RepN H w m) (h1 : n < bigN) (h2 : m < bigN) : Sat Tryz.prog F2035 #[.agg #[v], .agg #[w]] H (fun r H' => ∃ xa k cp, r = .agg #[.slice xa k cp] ∧ RepN H' (.slice xa k cp) (n + m)) := by
  obtain ⟨xs, a1, rfl, a2⟩ := hv.words h1
  obtain ⟨ys, b1, rfl, b2⟩ := hw.words h2
  exact addN_spec xs ys v w H a1 b1 a2 b2
theorem mulNN_spec (n m : Nat) (v w : Value) (H : View) (hv : RepN H v n) (hw : RepN H w m) (h1 : n < bigN) (h2 : m < bigN) : Sat Tryz.prog F2036 #[.agg #[v], .agg #[w]] H (fun r H' => ∃ xa k cp, r = .agg #[.slice xa k cp] ∧ RepN H' (.slice xa k cp) (n * m)) := by
  obtain ⟨xs, a1, rfl, a2⟩ := hv.words h1
  obtain ⟨ys, b1, rfl, b2⟩ := hw.words h2
  exact mulW_spec xs ys v w H a1 b1 a2 b2
end Go.Proofs.X

namespace Go.Proofs.X
open Go Pal Go.Proofs
attribute [local irreducible] Pal.KO Pal.KC Pal.KQ Pal.KD
theorem ty2029 : Ty Tryz.prog T2029 false 1 := .of (by kernel_rfl)
theorem ty2034 : Ty Tryz.prog T2034 false 1 := .of (by kernel_rfl)
theorem ty2035 : Ty Tryz.prog T2035 false 1 := .of (by kernel_rfl)
theorem sl2034 : slcOk Tryz.prog T2034 T2029 := by unfold slcOk; kernel_rfl
theorem fd2038_0 : fldOk Tryz.prog T2038 0 0 = true := by kernel_rfl
theorem fd2038_1 : fldOk Tryz.prog T2038 1 1 = true := by kernel_rfl
theorem fd2038_2 : fldOk Tryz.prog T2038 2 2 = true := by kernel_rfl
theorem mt2035 : Tryz.prog.underlying T2035 = some (.map T3 T2009) := by kernel_rfl
theorem each_spec (rs : List Rl) (bv : Value) (nb n : Nat) (s : Int) (a : Option Addr) (cap : Nat) (rv lv : Value) (H0 : View) (hbk : BookAt H0 bv rs) (hn : At H0 nb 0 [.slice a n cap, .int .i64 s, rv, lv]) (f : Nat → Int → Nat) (kv : Nat → KVs) (hch : ChAt H0 a n f kv) (hfit : ∀ r ∈ symR rs s, r.args.length = n) (hrl : rs.length ≤ 1099511627776)
    (gf : Nat) (cap0 : List Value) (hct : callable Tryz.prog gf = true) (E : List Rl → View → Own → Prop)
    (hvis : ∀ V pre r va en, VLe H0 V → E pre V en → (pre ++ [r]) <+: (symR rs s).filter (fun r => applB kv r.args r.args.length) → RVok V (r, va) → SatO Tryz.prog gf ([] ++ [Value.agg (cellRV (r, va)).toArray] ++ cap0).toArray V [en] (fun _ V' q => ∃ en', q = [en'] ∧ E (pre ++ [r]) V' en'))
    (en : Own) (hE : E [] H0 en) : SatO Tryz.prog F2069 #[bv, ptr nb, .func (.func gf) #[] cap0.toArray] H0 [en] (fun _ V q => ∃ en', q = [en'] ∧ E ((symR rs s).filter (fun r => applB kv r.args r.args.length)) V en') := by
  obtain ⟨bb, bkv, rfl, hbb, hbn, hbr⟩ := hbk
  have hS := hbr s
  generalize hsv : (lookI bkv s).getD nilS = sv at hS
  obtain ⟨sa, sc, rfl⟩ := hS.shape
  have hsl : (symR rs s).length ≤ rs.length := List.length_filter_le _ _
  have hn0 := hn.one (j := 0) rfl
  have hn1 := hn.one (j := 1) rfl
  generalize symR rs s = L0 at *
  refine enterO (n := 53) (args := [mp bb, ptr nb, .func (.func gf) #[] cap0.toArray]) Tryz.func100 rfl rfl rfl fun w0 => ?_
  refine K_scope ?_
  refine K_seq ?_
  refine K_label ?_
  refine Q_then ?_
  refine K_seq ?_
  refine K_region ?_
  refine KV (R_move rfl) rfl ?_
  refine KV (R_move rfl) rfl ?_
  refine KV (R_nilCheck rfl) rfl ?_
  refine KV (R_fieldAddr 1 fd2038_1 rfl) rfl ?_
  refine KV (R_loadH ty3 rfl (hn1) rfl (fun _ => rfl) rfl) rfl ?_
  refine KV (R_lookV mt2031 (by kernel_rfl) z48 rfl rfl (.inl hbb) hsv) rfl ?_
  refine KV (R_len sl48 rfl) rfl ?_
  refine KV (R_move rfl) rfl ?_
  refine K_nil ?_
  refine Q_then ?_
  refine K_block ?_
  refine K_loopD (G := Nat × View × Own) [7, 8, 9, 10, 11, 19, 20, 21, 22, 23, 24, 25, 26, 27, 28, 29, 30, 31, 32, 33, 34, 35, 36, 37, 38, 39, 40, 41, 42, 43, 44, 45, 46, 47, 48, 49, 50, 51, 52] (fun g => [(19, .int .i64 (g.1 : Int))]) (fun hl g => (hl.set 0 (g.2.2))) (fun g => g.2.1) (fun g => (g.1 ≤ L0.length) ∧ (VLe H0 g.2.1) ∧ (E ((L0.take g.1).filter (fun r => applB kv r.args r.args.length)) g.2.1 g.2.2)) (fun g => L0.length - g.1) (0, H0, en) ⟨Nat.zero_le _, VLe.refl _, hE⟩ ⟨rfl, trivial⟩ (by simp only [args0, Nat.reduceAdd, del, memN, beqN, Nat.reduceBEq, cond_true, cond_false]; rfl) rfl rfl ?_
  rintro ⟨k, V, eo⟩ ⟨hk, hV, hEk⟩
  dsimp only at hk hV hEk
  dsimp only [List.set, List.cons_append, List.nil_append]
  refine K_seq ?_
  refine K_region ?_
  refine KV (R_cmp rfl rfl rfl) rfl ?_
  refine K_nil ?_
  refine Q_then ?_
  refine K_seq ?_
  refine K_if rfl (fun h20 => ?_) (fun h20 => ?_)
  ·
    have hk' : k < L0.length := by omega
    obtain ⟨ub, uo, va, hue, hrc, hrv⟩ := (hS.mono hV).elem hk'
    cases hue
    obtain ⟨xa, xcp, hxe⟩ := hrv.1.shape
    dsimp only at hxe
    subst hxe
    have hfl := hfit L0[k] (List.getElem_mem hk')
    have hxl := hrv.2.1
    dsimp only at hxl
    refine K_skip ?_
    refine Q_then ?_
    refine K_seq ?_
    refine K_block ?_
    refine K_seq ?_
    refine K_region ?_
    refine KV (R_indexN sl48 ty85 rfl rfl (by omega)) rfl ?_
    refine KV (R_loadH ty85 rfl (hrc) rfl (fun e => by cases e) rfl) rfl ?_
    refine KA (A_alloc z85) rfl fun b7 => ?_
    refine K_storeW ty85 0 rfl rfl rfl rfl rfl rfl rfl ?_
    refine K_nil ?_
    refine Q_then ?_
    refine K_seq ?_
    refine K_seq ?_
    refine K_region ?_
    refine KV (R_fieldAddr 1 fd85_1 rfl) rfl ?_
    refine KV (R_loadO ty25 0 rfl rfl rfl rfl (fun _ => rfl) rfl) rfl ?_
    refine KV (R_len sl25 rfl) rfl ?_
    refine KV (R_move rfl) rfl ?_
    refine K_nil ?_
    refine Q_then ?_
    refine K_block ?_
    refine K_loopD (G := Nat) [8, 9, 10, 11, 26, 27, 28, 29, 30, 31, 32, 33, 34, 35, 36, 37, 38, 39, 40, 41, 42, 43, 44, 45, 46, 47, 48] (fun g => [(26, .int .i64 (g : Int))]) (fun hl g => hl) (fun g => V) (fun g => (g ≤ L0[k].args.length) ∧ (applB kv L0[k].args g = true)) (fun g => L0[k].args.length - g) (0 : Nat) ⟨Nat.zero_le _, rfl⟩ ⟨rfl, trivial⟩ (by simp only [args0, Nat.reduceAdd, del, memN, beqN, Nat.reduceBEq, cond_true, cond_false]; rfl) rfl rfl ?_
    rintro j ⟨hj, hap⟩
    try dsimp only at hj
    try dsimp only at hap
    dsimp only [List.set, List.cons_append, List.nil_append]
    refine K_seq ?_
    refine K_region ?_
    refine KV (R_cmp rfl rfl rfl) rfl ?_
    refine K_nil ?_
    refine Q_then ?_
    refine K_seq ?_
    refine K_if rfl (fun h27 => ?_) (fun h27 => ?_)
    ·
      have hj' : j < L0[k].args.length := by omega
      obtain ⟨xb, xo, hxe2, hxa⟩ := hrv.1.get hj'
      cases hxe2
      obtain ⟨cb0, co, cb, lv2, sv2, mv2, rb, hae, hcp, hcb, hrb, hrp⟩ := (hch.mono hV) j (by omega)
      subst hae
      have hcb2 := hcb.one (j := 2) rfl
      obtain ⟨za, zk, zc, hzv, _⟩ := hrp.val L0[k].args[j]
      have hgd : L0[k].args.getD j 0 = L0[k].args[j] := by simp [List.getD, hj']
      refine K_skip ?_
      refine Q_then ?_
      refine K_seq ?_
      refine K_block ?_
      refine K_seq ?_
      refine K_region ?_
      refine KV (R_move rfl) rfl ?_
      refine KV (R_indexN sl25 ty3 rfl rfl (by omega)) rfl ?_
      refine KV (R_loadH ty3 rfl (hxa) rfl (fun _ => rfl) rfl) rfl ?_
      refine KV (R_assign rfl) rfl ?_
      refine KV (R_assign rfl) rfl ?_
      refine K_nil ?_
      refine Q_then ?_
      refine K_seq ?_
      refine K_region ?_
      refine KV (R_move rfl) rfl ?_
      refine KV (R_nilCheck rfl) rfl ?_
      refine KV (R_fieldAddr 0 fd2038_0 rfl) rfl ?_
      refine KV (R_loadH ty2034 rfl (hn0.mono hV) rfl (fun _ => rfl) rfl) rfl ?_
      refine KV (R_move rfl) rfl ?_
      refine KV (R_indexN sl2034 ty2029 rfl rfl (by omega)) rfl ?_
      refine KV (R_loadH ty2029 rfl (hcp) rfl (fun _ => rfl) rfl) rfl ?_
      refine KV (R_nilCheck rfl) rfl ?_
      refine KV (R_fieldAddr 2 fd2038_2 rfl) rfl ?_
      refine KV (R_loadH ty2035 rfl (hcb2) rfl (fun _ => rfl) rfl) rfl ?_
      refine KV (R_move rfl) rfl ?_
      refine KV (R_lookT mt2035 (by kernel_rfl) z2009 rfl rfl (.inl hrb) (v := .tuple #[.agg #[.slice za zk zc], .bool (lookI (kv j) L0[k].args[j]).isSome]) (by rw [show Value.agg #[Value.slice none 0 0] = natZ from rfl, hzv])) rfl ?_
      refine KV (R_move rfl) rfl ?_
      refine KV (R_extract rfl rfl) rfl ?_
      refine KV (R_extract rfl rfl) rfl ?_
      refine KA (A_alloc z2009) rfl fun b10 => ?_
      refine K_store ty2009 0 rfl rfl rfl rfl rfl rfl ?_
      refine KV (R_assign rfl) rfl ?_
      refine K_nil ?_
      refine Q_then ?_
      refine K_seq ?_
      refine K_region ?_
      refine KV (R_move rfl) rfl ?_
      refine KV (R_not rfl) rfl ?_
      refine K_nil ?_
      refine Q_then ?_
      refine K_ifB rfl (fun h47 => ?_) (fun h47 => ?_)
      ·
        have hap2 : applB kv L0[k].args (j + 1) = false := by
          rw [applB, hgd]
          simp at h47
          simp [h47]
        have hno : (L0.take (k + 1)).filter (fun r => applB kv r.args r.args.length) = (L0.take k).filter (fun r => applB kv r.args r.args.length) := by
          rw [List.take_succ_eq_append_getElem hk', List.filter_append, List.filter_cons_of_neg (by simp [applB_false hap2 (show j + 1 ≤ L0[k].args.length by omega)])]; simp
        refine K_exit ?_
        refine Q_block_other rfl ?_
        refine Q_then_exit ?_
        refine Q_then_exit ?_
        refine Q_block_other rfl ?_
        refine Q_then_exit ?_
        refine Q_block_exit ?_
        refine Q_then ?_
        refine K_region ?_
        refine KV (R_add rfl rfl (by omega)) rfl ?_
        refine KV (R_move rfl) rfl ?_
        refine K_nil ?_
        refine KQ_sel [2] rfl ?_
        refine Q_nextD (k + 1, V, eo) ⟨hk', hV, by rw [hno]; exact hEk⟩ (by (try dsimp only); omega) ⟨rfl, trivial⟩ rfl rfl rfl
      ·
        have hap2 : applB kv L0[k].args (j + 1) = true := by
          rw [applB, hgd, hap]
          simp at h47
          simp [h47]
        refine K_skip ?_
        refine Q_block ?_
        refine Q_then ?_
        refine K_region ?_
        refine KV (R_add rfl rfl (by omega)) rfl ?_
        refine KV (R_move rfl) rfl ?_
        refine K_nil ?_
        refine KQ_sel [1, 1] rfl ?_
        refine Q_nextD ((j + 1)) ⟨hj', hap2⟩ (by (try dsimp only); omega) ⟨rfl, trivial⟩ rfl rfl rfl
    ·
      have hj' : j = L0[k].args.length := by omega
      rw [hj'] at hap
      have hft : (L0.take (k + 1)).filter (fun r => applB kv r.args r.args.length) = (L0.take k).filter (fun r => applB kv r.args r.args.length) ++ [L0[k]] := by
        rw [List.take_succ_eq_append_getElem hk', List.filter_append, List.filter_cons_of_pos (by simpa using hap)]; rfl
      have hpre : (L0.take k).filter (fun r => applB kv r.args r.args.length) ++ [L0[k]] <+: L0.filter (fun r => applB kv r.args r.args.length) := by
        rw [← hft]; exact (List.take_prefix _ _).filter _
      refine K_exit ?_
      refine Q_then_exit ?_
      refine Q_then_exit ?_
      refine Q_block_exit ?_
      refine Q_then ?_
      refine K_region ?_
      refine KV (R_move rfl) rfl ?_
      refine KV (R_loadW ty85 0 rfl rfl rfl rfl) rfl ?_
      refine KO_sel [1, 0] rfl ?_
      refine K_callO (first := []) [_] _ (List.Perm.refl _) hct rfl rfl rfl (hvis V _ L0[k] _ eo hV hEk hpre hrv) ?_
      rintro _ V2 q hv2 ⟨en2, rfl, hE2⟩
      dsimp only [List.cons_append, List.nil_append]
      refine K_nil ?_
      refine Q_block ?_
      refine Q_then ?_
      refine K_region ?_
      refine KV (R_add rfl rfl (by omega)) rfl ?_
      refine KV (R_move rfl) rfl ?_
      refine K_nil ?_
      refine KQ_sel [0] rfl ?_
      refine Q_nextD (k + 1, V2, en2) ⟨hk', hV.trans hv2, by rw [hft]; exact hE2⟩ (by (try dsimp only); omega) ⟨rfl, trivial⟩ rfl rfl rfl
  ·
    have hk' : k = L0.length := by omega
    subst hk'
    rw [List.take_length] at hEk
    refine K_exit ?_
    refine Q_then_exit ?_
    refine Q_then_exit ?_
    refine Q_block_exit ?_
    refine Q_scope ?_
    refine Q_fall ?_
    refine results_sel [0] rfl (rs := []) (vs := []) rfl trivial ?_
    exact ⟨_, rfl, hEk⟩
end Go.Proofs.X

namespace Go.Proofs.X
open Go Pal Go.Proofs
attribute [local irreducible] Pal.KO Pal.KC Pal.KQ Pal.KD
theorem c2019 : callable Tryz.prog F2019 = true := by kernel_rfl
theorem c2035 : callable Tryz.prog F2035 = true := by kernel_rfl
theorem c2036 : callable Tryz.prog F2036 = true := by kernel_rfl
theorem node1_spec (r : Rl) (va : Value) (b5 nb n : Nat) (a : Option Addr) (cap : Nat) (sv lv : Value) (rb : Nat) (kvs : KVs) (f : Nat → Int → Nat) (kv : Nat → KVs) (fo : Int → Nat) (H : View) (hrv : RVok H (r, va)) (hb5 : At H b5 0 [ptr nb]) (hn : At H nb 0 [.slice a n cap, sv, mp rb, lv]) (hch : ChAt H a n f kv) (hl : r.args.length = n) (hap : applB kv r.args r.args.length = true) (hfo : RunP H fo kvs)
    (hb1 : ∀ j, j ≤ r.args.length → prodTo f r.args j < bigN) (hb2 : ∀ j, j < r.args.length → f j (r.args.getD j 0) < bigN) (hb3 : fo r.to < bigN) :
    SatO Tryz.prog F2077 ([] ++ [Value.agg (cellRV (r, va)).toArray] ++ [ptr b5]).toArray H [blk rb (mapOb kvs)] (fun _ H' q => ∃ kvs', q = [blk rb (mapOb kvs')] ∧ RunP H' (fun x => fo x + if r.to = x then prodTo f r.args r.args.length else 0) kvs') := by
  obtain ⟨xa, xcp, hxe⟩ := hrv.1.shape
  dsimp only at hxe
  subst hxe
  have hxl := hrv.2.1
  dsimp only at hxl
  have hn0 := hn.one (j := 0) rfl
  have hn2 := hn.one (j := 2) rfl
  have hpos : 0 < prodTo f r.args r.args.length := (hch.appl r.args (by omega)).1 hap
  refine enterO (n := 45) (args := [.agg #[.int .i64 r.sym, .slice xa r.args.length xcp, .int .i64 r.to], ptr b5]) Tryz.func113 rfl rfl rfl fun w0 => ?_
  refine K_seq ?_
  refine K_region ?_
  refine KA (A_box rfl) rfl fun b2 => ?_
  refine K_nil ?_
  refine Q_then ?_
  refine K_seq ?_
  refine K_region ?_
  refine K_call c2019 rfl rfl (fromU_spec 1 (by decide) H) ?_
  rintro _ V0 hv0 ⟨na, nk, nc, rfl, hN0⟩
  refine KA (A_alloc z2009) rfl fun b3 => ?_
  refine K_storeW ty2009 0 rfl rfl rfl rfl rfl rfl rfl ?_
  refine K_nil ?_
  refine Q_then ?_
  refine K_seq ?_
  refine K_seq ?_
  refine K_region ?_
  refine KV (R_fieldAddr 1 fd85_1 rfl) rfl ?_
  refine KV (R_loadO ty25 1 rfl rfl rfl rfl (fun _ => rfl) rfl) rfl ?_
  refine KV (R_len sl25 rfl) rfl ?_
  refine KV (R_move rfl) rfl ?_
  refine K_nil ?_
  refine Q_then ?_
  refine K_block ?_
  refine K_loopD (G := Nat × View × Value) [4, 5, 10, 11, 12, 13, 14, 15, 16, 17, 18, 19, 20, 21, 22, 23, 24, 25, 26, 27, 28, 29] (fun g => [(10, .int .i64 (g.1 : Int))]) (fun hl g => (hl.set 0 (blk b3 (.cells #[g.2.2] T2009 (0, 0))))) (fun g => g.2.1) (fun g => (g.1 ≤ r.args.length) ∧ (VLe H g.2.1) ∧ (∃ wa wk wc, g.2.2 = .slice wa wk wc ∧ RepN g.2.1 (.slice wa wk wc) (prodTo f r.args g.1))) (fun g => r.args.length - g.1) (0, V0, .slice na nk nc) ⟨Nat.zero_le _, hv0, na, nk, nc, rfl, hN0⟩ ⟨rfl, trivial⟩ (by simp only [args0, Nat.reduceAdd, del, memN, beqN, Nat.reduceBEq, cond_true, cond_false]; rfl) rfl rfl ?_
  rintro ⟨j, V, w⟩ ⟨hj, hV, hw⟩
  dsimp only at hj hV hw
  dsimp only [List.set, List.cons_append, List.nil_append]
  obtain ⟨wa, wk, wc, rfl, hwN⟩ := hw
  refine K_seq ?_
  refine K_region ?_
  refine KV (R_cmp rfl rfl rfl) rfl ?_
  refine K_nil ?_
  refine Q_then ?_
  refine K_seq ?_
  refine K_if rfl (fun h11 => ?_) (fun h11 => ?_)
  ·
    have hj' : j < r.args.length := by omega
    obtain ⟨xb, xo, hxe2, hxa⟩ := (hrv.1.mono hV).get hj'
    cases hxe2
    obtain ⟨cb0, co, cb, lv2, sv2, mv2, rb2, hae, hcp, hcb, hrb, hrp⟩ := (hch.mono hV) j (by omega)
    subst hae
    have hcb2 := hcb.one (j := 2) rfl
    obtain ⟨za, zk, zc, hzv, hzN⟩ := hrp.val r.args[j]
    have hgd : r.args.getD j 0 = r.args[j] := by simp [List.getD, hj']
    refine K_skip ?_
    refine Q_then ?_
    refine K_seq ?_
    refine K_block ?_
    refine K_seq ?_
    refine K_region ?_
    refine KV (R_move rfl) rfl ?_
    refine KV (R_indexN sl25 ty3 rfl rfl (by omega)) rfl ?_
    refine KV (R_loadH ty3 rfl (hxa) rfl (fun _ => rfl) rfl) rfl ?_
    refine KV (R_assign rfl) rfl ?_
    refine KV (R_assign rfl) rfl ?_
    refine K_nil ?_
    refine Q_then ?_
    refine K_regionD (fin := true) (R := [0, 1, 2, 3, 4, 5, 6, 7, 8, 9, 10, 11, 12, 13, 14]) (by kernel_rfl) mixed (.cons_cons _ (.cons_cons _ (.cons _ (List.nil_sublist _)))) ?_
    refine D_val rfl rfl rfl (R_loadW ty2009 0 rfl rfl rfl rfl) ?_
    refine D_val rfl rfl rfl (R_loadH ty2029 rfl (hb5.mono hV) rfl (fun _ => rfl) rfl) ?_
    refine D_val rfl rfl rfl (R_nilCheck rfl) ?_
    refine D_val rfl rfl rfl (R_fieldAddr 0 fd2038_0 rfl) ?_
    refine D_val rfl rfl rfl (R_loadH ty2034 rfl (hn0.mono hV) rfl (fun _ => rfl) rfl) ?_
    refine D_val rfl rfl rfl (R_move rfl) ?_
    refine D_val rfl rfl rfl (R_indexN sl2034 ty2029 rfl rfl (by omega)) ?_
    refine D_val rfl rfl rfl (R_loadH ty2029 rfl (hcp) rfl (fun _ => rfl) rfl) ?_
    refine D_val rfl rfl rfl (R_nilCheck rfl) ?_
    refine D_val rfl rfl rfl (R_fieldAddr 2 fd2038_2 rfl) ?_
    refine D_val rfl rfl rfl (R_loadH ty2035 rfl (hcb2) rfl (fun _ => rfl) rfl) ?_
    refine D_val rfl rfl rfl (R_move rfl) ?_
    refine D_val rfl rfl rfl (R_lookV mt2035 (by kernel_rfl) z2009 rfl rfl (.inl hrb) (show (lookI (kv j) r.args[j]).getD natZ = .agg #[.slice za zk zc] from hzv)) ?_
    refine D_call rfl rfl c2036 rfl ⟨⟨0, rfl⟩, ⟨1, rfl⟩, trivial⟩ (mulNN_spec (prodTo f r.args j) (f j r.args[j]) _ _ V hwN hzN (hb1 j hj) (by have := hb2 j hj'; rw [hgd] at this; exact this)) ?_
    rintro _ V1 hv1 ⟨ma, mk, mc, rfl, hMN⟩
    refine D_lastStoreW ty2009 0 rfl rfl rfl rfl rfl rfl rfl rfl rfl ?_
    refine Q_block ?_
    refine Q_then ?_
    refine K_region ?_
    refine KV (R_add rfl rfl (by omega)) rfl ?_
    refine KV (R_move rfl) rfl ?_
    refine K_nil ?_
    refine Q_nextD (j + 1, V1, .slice ma mk mc) ⟨hj', hV.trans hv1, ma, mk, mc, rfl, by rw [prodTo, hgd]; exact hMN⟩ (by (try dsimp only); omega) ⟨rfl, trivial⟩ rfl rfl rfl
  ·
    have hj' : j = r.args.length := by omega
    rw [hj'] at hwN
    refine K_exit ?_
    refine Q_then_exit ?_
    refine Q_then_exit ?_
    refine Q_block_exit ?_
    refine Q_then ?_
    obtain ⟨oa, ok, oc, hov, hoN⟩ := (hfo.mono hV).val r.to
    refine K_regionD (fin := true) (R := [0, 1, 2, 3, 4, 5, 6, 7, 8, 9, 10, 11, 12, 13, 14, 15]) (by kernel_rfl) mixed (.cons_cons _ (.cons_cons _ (.cons_cons _ (List.nil_sublist _)))) ?_
    refine D_val rfl rfl rfl (R_loadH ty2029 rfl (hb5.mono hV) rfl (fun _ => rfl) rfl) ?_
    refine D_val rfl rfl rfl (R_nilCheck rfl) ?_
    refine D_val rfl rfl rfl (R_fieldAddr 2 fd2038_2 rfl) ?_
    refine D_val rfl rfl rfl (R_loadH ty2035 rfl (hn2.mono hV) rfl (fun _ => rfl) rfl) ?_
    refine D_val rfl rfl rfl (R_fieldAddr 2 fd85_2 rfl) ?_
    refine D_val rfl rfl rfl (R_loadO ty3 1 rfl rfl rfl rfl (fun _ => rfl) rfl) ?_
    refine D_val rfl rfl rfl (R_loadH ty2029 rfl (hb5.mono hV) rfl (fun _ => rfl) rfl) ?_
    refine D_val rfl rfl rfl (R_nilCheck rfl) ?_
    refine D_val rfl rfl rfl (R_fieldAddr 2 fd2038_2 rfl) ?_
    refine D_val rfl rfl rfl (R_loadH ty2035 rfl (hn2.mono hV) rfl (fun _ => rfl) rfl) ?_
    refine D_val rfl rfl rfl (R_fieldAddr 2 fd85_2 rfl) ?_
    refine D_val rfl rfl rfl (R_loadO ty3 1 rfl rfl rfl rfl (fun _ => rfl) rfl) ?_
    refine D_val rfl rfl rfl (R_lookV mt2035 (by kernel_rfl) z2009 rfl rfl (MapAt.at 2 rfl) (show (lookI kvs r.to).getD natZ = .agg #[.slice oa ok oc] from hov)) ?_
    refine D_val rfl rfl rfl (R_loadW ty2009 0 rfl rfl rfl rfl) ?_
    refine D_call rfl rfl c2035 rfl ⟨⟨0, rfl⟩, ⟨1, rfl⟩, ⟨2, rfl⟩, trivial⟩ (addNN_spec (fo r.to) (prodTo f r.args r.args.length) _ _ V hoN hwN hb3 (hb1 _ (Nat.le_refl _))) ?_
    rintro _ V2 hv2 ⟨sa, sk, sc, rfl, hSN⟩
    refine D_lastSet mt2035 (by kernel_rfl) 2 rfl rfl rfl rfl rfl rfl ?_
    refine Q_fall ?_
    refine results_sel [2] rfl (rs := []) (vs := []) rfl trivial ?_
    exact ⟨_, rfl, (hfo.mono hV).set hv2 hpos ⟨_, _, _, rfl, hSN⟩⟩
end Go.Proofs.X

namespace Go.Proofs.X
open Go Pal Go.Proofs
attribute [local irreducible] Pal.KO Pal.KC Pal.KQ Pal.KD
theorem z2029 : zeroOk Tryz.prog T2029 (.pointer none) := .of (by kernel_rfl)
theorem z2038 : zeroOk Tryz.prog T2038 (.agg #[.slice none 0 0, .int .i64 0, .map none, .map none]) := .of (by kernel_rfl)
theorem pl2038 : placesOk Tryz.prog T2038 [(0, 1), (1, 1), (2, 1), (3, 1)] := ⟨_, Tryz.underlying96, by kernel_rfl⟩
theorem c2065 : callable Tryz.prog F2065 = true := by kernel_rfl
theorem c2069 : callable Tryz.prog F2069 = true := by kernel_rfl
theorem c2077 : callable Tryz.prog F2077 = true := by kernel_rfl
theorem ap2034 : App Tryz.prog T2034 T2029 1 8 := .of sl2034 (by kernel_rfl)
theorem node_spec (rs : List Rl) (hrl : rs.length ≤ 65536) : ∀ m t H bv cs, t.size ≤ m → m ≤ 1048576 → RepT H t cs → BookAt H bv rs → Tr.fits rs t → SatO Tryz.prog F2065 #[bv, .agg cs.toArray] H [] (fun v H' q => ∃ nd, v = ptr nd.b ∧ RepNd T2038 H' rs t nd ∧ q = [many (nd.maps fun _ => [])]) := by
  intro m
  induction m with
  | zero => intro t H bv cs h; have := t.size_pos; omega
  | succ m ih =>
  intro t H bv cs hm hb hr hbk hfit
  cases hr with | mk s ts a cap b off cs' hs ha hA hrec =>
  have hsz : (Tr.node s ts).size = 1 + Tr.sizes ts := rfl
  have hln := Tr.length_le_sizes ts
  obtain ⟨hfit1, hfit2⟩ := hfit
  have hfitS : ∀ r ∈ symR rs s, r.args.length = ts.length := fun r hr => by
    have h := List.mem_filter.1 hr
    exact hfit1 r h.1 (of_decide_eq_true h.2)
  refine enterO (n := 39) (args := [bv, .agg #[.int .i64 s, .slice a ts.length cap]]) Tryz.func95 rfl rfl rfl fun w0 => ?_
  refine K_seq ?_
  refine K_region ?_
  refine KA (A_box rfl) rfl fun b3 => ?_
  refine KV (R_assign rfl) rfl ?_
  refine K_nil ?_
  refine Q_then ?_
  refine K_seq ?_
  refine K_region ?_
  refine KV (R_fieldAddr 0 fd30_0 rfl) rfl ?_
  refine KV (R_loadO ty3 0 rfl rfl rfl rfl (fun _ => rfl) rfl) rfl ?_
  refine KA (A_makeMap) rfl fun b10 => ?_
  refine KA (A_makeMap) rfl fun b11 => ?_
  refine KV (R_build z2038 pl2038 rfl rfl) rfl ?_
  refine KA (A_box rfl) rfl fun b13 => ?_
  refine KA (A_alloc z2029) rfl fun b5 => ?_
  refine K_store ty2029 0 rfl rfl rfl rfl rfl rfl ?_
  refine K_nil ?_
  refine Q_then ?_
  refine K_seq ?_
  refine K_seq ?_
  refine K_region ?_
  refine KV (R_fieldAddr 1 fd30_1 rfl) rfl ?_
  refine KV (R_loadO ty28 4 rfl rfl rfl rfl (fun _ => rfl) rfl) rfl ?_
  refine KV (R_len sl28 rfl) rfl ?_
  refine KV (R_move rfl) rfl ?_
  refine K_nil ?_
  refine Q_then ?_
  refine K_block ?_
  refine K_nilrow T2029 1 ?_
  refine KC_many_nil ?_
  refine K_loopD (G := Nat × View × Value × List Nd) [7, 17, 18, 19, 20, 21, 22, 23, 24, 25, 26, 27, 28, 29, 30, 31, 32, 33] (fun g => [(17, .int .i64 (g.1 : Int))]) (fun hl g => (((hl.set 0 (many (Nd.mapss (fun _ => []) g.2.2.2))).set 1 (row g.2.2.1 T2029 1 g.1 (g.2.2.2.map fun n => ptr n.b))).set 3 (blk b13 (.cells #[g.2.2.1, .int .i64 s, mp b10, mp b11] T2038 (0, 0))))) (fun g => g.2.1) (fun g => (g.1 ≤ ts.length) ∧ (VLe H g.2.1) ∧ (g.2.2.2.length = g.1) ∧ (∀ i (h1 : i < ts.length) (h2 : i < g.2.2.2.length), RepNd T2038 g.2.1 rs ts[i] g.2.2.2[i]) ∧ (∃ wa wc, g.2.2.1 = .slice wa g.1 wc)) (fun g => ts.length - g.1) (0, H, nilS, []) ⟨Nat.zero_le _, VLe.refl _, rfl, fun i h1 h2 => by simp at h2, none, 0, rfl⟩ ⟨rfl, trivial⟩ (by simp only [args0, Nat.reduceAdd, del, memN, beqN, Nat.reduceBEq, cond_true, cond_false]; rfl) rfl rfl ?_
  rintro ⟨k, V, w, ns⟩ ⟨hk, hV, hns, hch, hw⟩
  dsimp only at hk hV hns hch hw
  dsimp only [List.set, List.cons_append, List.nil_append]
  obtain ⟨wa, wcp, rfl⟩ := hw
  refine K_seq ?_
  refine K_region ?_
  refine KV (R_cmp rfl rfl rfl) rfl ?_
  refine K_nil ?_
  refine Q_then ?_
  refine K_seq ?_
  refine K_if rfl (fun h18 => ?_) (fun h18 => ?_)
  ·
    have hk' : k < ts.length := by omega
    have htk := Tr.sizes_take ts k hk'
    have hle := Tr.sizes_take_le ts (k + 1)
    have ha' := ha (by intro e; subst e; simp at hk')
    subst ha'
    obtain ⟨x0, x1, x2, x3, hcsk⟩ := (hrec k hk').shape
    have hAk : At V b (off + k * 2) [.int .i64 x0, .slice x1 x2 x3] := by rw [← hcsk]; exact (hA k hk').2.mono hV
    have hrk : RepT V ts[k] [.int .i64 x0, .slice x1 x2 x3] := by rw [← hcsk]; exact (hrec k hk').mono hV
    refine K_skip ?_
    refine Q_then ?_
    refine K_seq ?_
    refine K_block ?_
    refine K_seq ?_
    refine K_region ?_
    refine KV (R_indexN sl28 ty30 rfl rfl (by omega)) rfl ?_
    refine KV (R_loadH ty30 rfl (hAk) rfl (fun e => by cases e) rfl) rfl ?_
    refine KA (A_alloc z30) rfl fun b7 => ?_
    refine K_storeW ty30 0 rfl rfl rfl rfl rfl rfl rfl ?_
    refine K_nil ?_
    refine Q_then ?_
    refine K_regionD (fin := true) (R := [0, 1, 2, 3, 4, 5, 6, 7, 8, 9, 10, 11, 12]) (by kernel_rfl) mixed (.cons_cons _ (.cons _ (.cons _ (.cons_cons _ (.cons_cons _ (.cons _ (.cons _ (.cons _ (List.nil_sublist _))))))))) ?_
    refine D_val rfl rfl rfl (R_loadO ty2029 1 rfl rfl rfl rfl (fun _ => rfl) rfl) ?_
    refine D_val rfl rfl rfl (R_loadO ty2029 1 rfl rfl rfl rfl (fun _ => rfl) rfl) ?_
    refine D_val rfl rfl rfl (R_nilCheck rfl) ?_
    refine D_val rfl rfl rfl (R_fieldAddr 0 fd2038_0 rfl) ?_
    refine D_val rfl rfl rfl (R_loadO ty2034 2 rfl rfl rfl rfl (fun _ => rfl) rfl) ?_
    refine D_val rfl rfl rfl (R_move rfl) ?_
    refine D_val rfl rfl rfl (R_loadW ty30 0 rfl rfl rfl rfl) ?_
    refine D_callO (first := []) [] _ rfl rfl c2065 rfl rfl (List.Perm.refl _) ⟨⟨0, rfl⟩, ⟨3, rfl⟩, ⟨4, rfl⟩, trivial⟩ (ih ts[k] V bv [.int .i64 x0, .slice x1 x2 x3] (by omega) (by omega) hrk (hbk.mono hV) (Tr.fitss_get hfit2 k hk')) ?_
    rintro _ U q28 hU ⟨nd, rfl, hnd, rfl⟩
    dsimp only [List.cons_append, List.nil_append]
    refine D_alloc rfl rfl rfl (A_buildSlice (vs := [ptr nd.b]) sl2034 ty2029 z2029 rfl rfl (by simp [ptr, Value.cells]) (by simp) rfl (by decide)) fun b29 => ?_
    refine D_append1 3 ap2034 rfl rfl rfl rfl rfl rfl ⟨⟨1, rfl⟩, ⟨3, rfl⟩, ⟨4, rfl⟩, trivial⟩ rfl rfl ⟨by omega, by omega⟩ fun a30 k30 hn30 => ?_
    refine D_val rfl rfl rfl (R_nilCheck rfl) ?_
    refine D_val rfl rfl rfl (R_fieldAddr 0 fd2038_0 rfl) ?_
    refine D_lastStore ty2034 5 rfl rfl rfl rfl rfl rfl rfl rfl ?_
    refine KQ_front 3 rfl ?_
    refine KQ_front 2 rfl ?_
    refine KQ_many_app ?_
    dsimp only [List.eraseIdx]
    refine Q_block ?_
    refine Q_then ?_
    refine K_region ?_
    refine KV (R_add rfl rfl (by omega)) rfl ?_
    refine KV (R_move rfl) rfl ?_
    refine K_nil ?_
    refine KQ_sel [0, 0, 1, 1, 1, 1, 1] rfl ?_
    refine Q_nextD (k + 1, U, .slice a30 (k + 1) k30, ns ++ [nd]) ⟨hk', hV.trans hU, by simp [hns], repNd_snoc hch hU hns hk' hnd, _, _, rfl⟩ (by (try dsimp only); omega) ⟨rfl, trivial⟩ rfl (by dsimp only [List.set]; rw [Nd.mapss_append, List.map_append]; simp only [Nd.mapss, List.append_nil]; rfl) rfl
  ·
    have hk' : k = ts.length := by omega
    subst hk'
    refine K_exit ?_
    refine Q_then_exit ?_
    refine Q_then_exit ?_
    refine Q_block_exit ?_
    refine Q_then ?_
    refine K_seq ?_
    refine KC_front 1 rfl ?_
    refine KC_pubrow rfl fun U1 hU1 hl1 => ?_
    refine KC_front 1 rfl ?_
    refine KC_pubnew (by simp [feet]) fun U2 hU2 hb5 => ?_
    refine KC_front 1 rfl ?_
    refine KC_pubnew (by simp [feet]) fun U3 hU3 hb13 => ?_
    have h13 := hU1.trans (hU2.trans hU3)
    have hslA : SlAt U3 (.slice wa ts.length wcp) ts.length (ns.map fun n => ptr n.b) := hl1.sl.mono (hU2.trans hU3)
    have hch3 : ∀ i (h1 : i < ts.length) (h2 : i < ns.length), RepNd T2038 U3 rs ts[i] ns[i] := fun i h1 h2 => (hch i h1 h2).mono h13
    obtain ⟨kv, hchA⟩ := chAt_of hns hslA hch3
    have hbk3 := hbk.mono (hV.trans h13)
    have hb5A := (At.of hb5).mono hU3
    have hvis : ∀ V pre r va en, VLe U3 V → (∃ kvs, en = blk b10 (mapOb kvs) ∧ RunP V (fun x => sumTo (runF rs ts) pre x) kvs) → (pre ++ [r]) <+: (symR rs s).filter (fun r => applB kv r.args r.args.length) → RVok V (r, va) → SatO Tryz.prog F2077 ([] ++ [Value.agg (cellRV (r, va)).toArray] ++ [ptr b5]).toArray V [en] (fun _ V' q => ∃ en', q = [en'] ∧ ∃ kvs, en' = blk b10 (mapOb kvs) ∧ RunP V' (fun x => sumTo (runF rs ts) (pre ++ [r]) x) kvs) := by
      rintro V pre r va en hV2 ⟨kvs, rfl, hrp⟩ hpre hrv
      have hin := List.mem_filter.1 (hpre.subset (show r ∈ pre ++ [r] by simp))
      have hlen := hfitS r hin.1
      have hle := Nat.le_trans (sumTo_le (F := runF rs ts) (q := r.to) ((List.prefix_append pre [r]).trans hpre)) (Nat.le_of_eq (node_cnt hchA hfitS r.to))
      refine (node1_spec r va b5 b13 ts.length _ _ _ _ b10 kvs (cntF rs ts) kv _ V hrv (hb5A.mono hV2) ((At.of hb13).mono hV2) (hchA.mono hV2) hlen hin.2 hrp (fun j hj => prodTo_big hrl (by omega) r.args (by omega)) (fun j hj => cntF_big hrl (by omega) (by omega) _) (Nat.lt_of_le_of_lt hle (cnt_big hrl (by omega) _))).mono' ?_
      rintro _ V' q ⟨kvs', rfl, h⟩
      refine ⟨_, rfl, kvs', rfl, ?_⟩
      have e : (fun x => sumTo (runF rs ts) (pre ++ [r]) x) = fun x => sumTo (runF rs ts) pre x + if r.to = x then prodTo (cntF rs ts) r.args r.args.length else 0 := by
        funext x; rw [sumTo_snoc]; rfl
      rw [e]; exact h
    refine K_region ?_
    refine KV (R_move rfl) rfl ?_
    refine KV (R_loadH ty2029 rfl (hb5A) rfl (fun _ => rfl) rfl) rfl ?_
    refine KV (R_makeFunc rfl rfl) rfl ?_
    refine KO_sel [2, 0, 0, 0] rfl ?_
    refine K_callO (first := []) [_] _ (List.Perm.refl _) c2069 rfl rfl rfl (each_spec rs bv b13 ts.length s _ _ _ _ U3 hbk3 (At.of hb13) (cntF rs ts) kv hchA hfitS (by omega) F2077 [ptr b5] c2077 (fun pre V en => ∃ kvs, en = blk b10 (mapOb kvs) ∧ RunP V (fun x => sumTo (runF rs ts) pre x) kvs) hvis (blk b10 (mapOb [])) ⟨[], rfl, RunP.nil U3⟩) ?_
    rintro _ V4 q37 hv4 ⟨en4, rfl, kvs4, rfl, hrp4⟩
    dsimp only [List.cons_append, List.nil_append]
    refine K_nil ?_
    refine Q_then ?_
    refine K_seq ?_
    refine K_region ?_
    refine KV (R_loadH ty2029 rfl (hb5A.mono hv4) rfl (fun _ => rfl) rfl) rfl ?_
    refine KV (R_assign rfl) rfl ?_
    refine K_nil ?_
    refine KQ_pubF fun U5 hU5 hb10 => ?_
    refine KQ_front 1 rfl ?_
    refine KQ_many_cons ?_
    try dsimp only [List.eraseIdx]
    refine Q_then ?_
    refine K_ret ?_
    refine results_sel [0] rfl (rs := [.tmp 4]) (vs := [_]) rfl ⟨rfl, trivial⟩ ?_
    refine ⟨.mk b13 b11 ns, rfl, .mk s ts b13 b11 b10 ns wa wcp kvs4 ?_ hns (hslA.mono (hv4.trans hU5)) hb10 ?_ (fun i h1 h2 => (hch3 i h1 h2).mono (hv4.trans hU5)), rfl⟩
    · exact (hv4.trans hU5) _ _ hb13
    · have e : Tr.cnt rs (.node s ts) = fun x => sumTo (runF rs ts) ((symR rs s).filter fun r => applB kv r.args r.args.length) x := funext fun x => (node_cnt hchA hfitS x).symm
      rw [e]; exact hrp4.mono hU5
end Go.Proofs.X

namespace Go.Proofs.X
open Go Pal Go.Proofs
attribute [local irreducible] Pal.KO Pal.KC Pal.KQ Pal.KD
theorem c77 : callable Tryz.prog F77 = true := by kernel_rfl
theorem c98 : callable Tryz.prog F98 = true := by kernel_rfl
theorem c2053 : callable Tryz.prog F2053 = true := by kernel_rfl
theorem asked_spec (a : Au) (vr vu vf : Value) (t : Tr) (cs : List Value) (H : View) (ha : RepAu H a vr vu vf) (hrk : a.ranks.length ≤ 1048576) (hr : RepT H t cs) (hb : t.size ≤ 1048576) : SatO Tryz.prog F2038 #[.agg #[vr, .int .i64 a.states, vu, vf], .agg cs.toArray] H [] (fun r H' q => (askErr a t ≠ 0 → r = .tuple #[.pointer none, .map none, .int .i64 (askErr a t)] ∧ q = []) ∧ (askErr a t = 0 → ∃ nd bv, r = .tuple #[ptr nd.b, bv, .int .i64 0] ∧ RepNd T2038 H' (sortO a.rules) t nd ∧ BookAt H' bv (sortO a.rules) ∧ q = [many (nd.maps fun _ => [])])) := by
  obtain ⟨ra, rcp, rfl⟩ := ha.r.shape
  obtain ⟨fa, fcp, rfl⟩ := ha.f.shape
  obtain ⟨ua, ucp, rfl⟩ := ha.ushape
  have hrl := ha.rl
  have hul := ha.ul
  have hfl := ha.fl
  obtain ⟨x0, x1, x2, x3, rfl⟩ := hr.shape
  refine enterO (n := 28) (args := [.agg #[.slice ra a.ranks.length rcp, .int .i64 a.states, .slice ua a.rules.length ucp, .slice fa a.final.length fcp], .agg #[.int .i64 x0, .slice x1 x2 x3]]) Tryz.func52 rfl rfl rfl fun w0 => ?_
  refine K_seq ?_
  refine K_region ?_
  refine KA (A_box rfl) rfl fun b2 => ?_
  refine KA (A_box rfl) rfl fun b3 => ?_
  refine KV (R_assign rfl) rfl ?_
  refine KV (R_assign rfl) rfl ?_
  refine KV (R_assign rfl) rfl ?_
  refine K_nil ?_
  refine Q_then ?_
  refine K_seq ?_
  refine K_seq ?_
  refine K_region ?_
  refine KV (R_loadW ty50 1 rfl rfl rfl rfl) rfl ?_
  refine K_call c77 rfl rfl (ncheck_spec a _ _ _ H ha) ?_
  rintro _ V1 hv1 rfl
  refine KV (R_assign rfl) rfl ?_
  refine K_nil ?_
  refine Q_then ?_
  refine K_seq ?_
  refine K_region ?_
  refine KV (R_move rfl) rfl ?_
  refine KV (R_cmp rfl rfl rfl) rfl ?_
  refine K_nil ?_
  refine Q_then ?_
  refine K_if rfl (fun h13 => ?_) (fun h13 => ?_)
  ·
    refine K_seq ?_
    refine K_region ?_
    refine KV (R_move rfl) rfl ?_
    refine KV (R_assign rfl) rfl ?_
    refine KV (R_assign rfl) rfl ?_
    refine KV (R_assign rfl) rfl ?_
    refine K_nil ?_
    refine Q_then ?_
    refine K_ret ?_
    refine Q_then_ret ?_
    refine results_sel [] rfl (rs := [.tmp 4, .tmp 5, .tmp 6]) (vs := [_, _, _]) rfl ⟨rfl, ⟨rfl, ⟨rfl, trivial⟩⟩⟩ ?_
    have e : askErr a t = auErr a := by unfold askErr; rw [if_pos h13]
    rw [e]
    exact ⟨fun _ => ⟨rfl, rfl⟩, fun h => absurd h h13⟩
  ·
    refine K_skip ?_
    refine Q_then ?_
    refine K_seq ?_
    refine K_seq ?_
    refine K_region ?_
    refine KV (R_fieldAddr 0 fd50_0 rfl) rfl ?_
    refine KV (R_loadO ty47 1 rfl rfl rfl rfl (fun _ => rfl) rfl) rfl ?_
    refine KV (R_loadW ty30 0 rfl rfl rfl rfl) rfl ?_
    refine K_call c98 rfl rfl (pvalid_spec a.ranks _ t V1 _ hrk (by omega) (hr.mono hv1) (ha.mono hv1).r) ?_
    rintro _ V2 hv2 rfl
    refine KV (R_assign rfl) rfl ?_
    refine K_nil ?_
    refine Q_then ?_
    refine K_seq ?_
    refine K_region ?_
    refine KV (R_move rfl) rfl ?_
    refine KV (R_cmp rfl rfl rfl) rfl ?_
    refine K_nil ?_
    refine Q_then ?_
    refine K_if rfl (fun h20 => ?_) (fun h20 => ?_)
    ·
      refine K_seq ?_
      refine K_region ?_
      refine KV (R_move rfl) rfl ?_
      refine KV (R_assign rfl) rfl ?_
      refine KV (R_assign rfl) rfl ?_
      refine KV (R_assign rfl) rfl ?_
      refine K_nil ?_
      refine Q_then ?_
      refine K_ret ?_
      refine Q_then_ret ?_
      refine results_sel [] rfl (rs := [.tmp 4, .tmp 5, .tmp 6]) (vs := [_, _, _]) rfl ⟨rfl, ⟨rfl, ⟨rfl, trivial⟩⟩⟩ ?_
      have e : askErr a t = validErr a.ranks t := by unfold askErr; rw [if_neg h13]
      rw [e]
      exact ⟨fun _ => ⟨rfl, rfl⟩, fun h => absurd h h20⟩
    ·
      have h13' : auErr a = 0 := Decidable.not_not.1 h13
      have h20' : validErr a.ranks t = 0 := Decidable.not_not.1 h20
      have hask : askErr a t = 0 := by unfold askErr; rw [if_neg h13]; exact h20'
      obtain ⟨hok, hsz, hnodes⟩ := askErr_zero hask
      refine K_skip ?_
      refine Q_then ?_
      refine K_seq ?_
      refine K_region ?_
      refine KV (R_loadW ty50 1 rfl rfl rfl rfl) rfl ?_
      refine K_call c2053 rfl rfl (book_spec a _ _ _ V2 (ha.mono (hv1.trans hv2))) ?_
      rintro bv V3 hv3 hbk
      refine KV (R_assign rfl) rfl ?_
      refine K_nil ?_
      refine Q_then ?_
      refine K_seq ?_
      refine K_region ?_
      refine KV (R_move rfl) rfl ?_
      refine KV (R_loadW ty30 0 rfl rfl rfl rfl) rfl ?_
      have hsl := sortO_len a.rules
      refine K_callO (first := []) [] _ (List.Perm.refl _) c2065 rfl rfl rfl (node_spec (sortO a.rules) (by have := hok.ul; omega) t.size t V3 bv _ (Nat.le_refl _) (by omega) (hr.mono (hv1.trans (hv2.trans hv3))) hbk (Tr.fits_of hok (fun r h => sortO_mem.1 h) t hnodes)) ?_
      rintro _ V4 q26 hv4 ⟨nd, rfl, hnd, rfl⟩
      dsimp only [List.cons_append, List.nil_append]
      refine KV (R_move rfl) rfl ?_
      refine KV (R_assign rfl) rfl ?_
      refine KV (R_assign rfl) rfl ?_
      refine KV (R_assign rfl) rfl ?_
      refine K_nil ?_
      refine Q_then ?_
      refine K_ret ?_
      refine results_sel [0] rfl (rs := [.tmp 4, .tmp 5, .tmp 6]) (vs := [_, _, _]) rfl ⟨rfl, ⟨rfl, ⟨rfl, trivial⟩⟩⟩ ?_
      exact ⟨fun h => absurd hask h, fun _ => ⟨nd, bv, rfl, hnd, hbk.mono hv4, rfl⟩⟩
end Go.Proofs.X

namespace Go.Proofs.X
open Go Pal Go.Proofs
attribute [local irreducible] Pal.KO Pal.KC Pal.KQ Pal.KD
theorem c2038 : callable Tryz.prog F2038 = true := by kernel_rfl
theorem reach_spec (a : Au) (vr vu vf : Value) (t : Tr) (cs : List Value) (H : View) (ha : RepAu H a vr vu vf) (hrk : a.ranks.length ≤ 1048576) (hr : RepT H t cs) (hb : t.size ≤ 1048576) : Sat Tryz.prog F2011 #[.agg #[vr, .int .i64 a.states, vu, vf], .agg cs.toArray] H (fun r H' => ∃ v, r = .tuple #[v, .int .i64 (askErr a t)] ∧ (askErr a t ≠ 0 → v = nilS) ∧ (askErr a t = 0 → ∃ L, IsReach (sortO a.rules) t L ∧ SI H' v L ∧ L.length ≤ 65536)) := by
  have hab := ha.b
  obtain ⟨ra, rcp, rfl⟩ := ha.r.shape
  obtain ⟨fa, fcp, rfl⟩ := ha.f.shape
  obtain ⟨ua, ucp, rfl⟩ := ha.ushape
  have hrl := ha.rl
  have hul := ha.ul
  have hfl := ha.fl
  obtain ⟨x0, x1, x2, x3, rfl⟩ := hr.shape
  refine enterO (n := 37) (args := [.agg #[.slice ra a.ranks.length rcp, .int .i64 a.states, .slice ua a.rules.length ucp, .slice fa a.final.length fcp], .agg #[.int .i64 x0, .slice x1 x2 x3]]) Tryz.func16 rfl rfl rfl fun w0 => ?_
  refine K_seq ?_
  refine K_region ?_
  refine KA (A_box rfl) rfl fun b2 => ?_
  refine KA (A_box rfl) rfl fun b3 => ?_
  refine KV (R_assign rfl) rfl ?_
  refine KV (R_assign rfl) rfl ?_
  refine K_nil ?_
  refine Q_then ?_
  refine K_seq ?_
  refine K_region ?_
  refine KV (R_loadW ty50 1 rfl rfl rfl rfl) rfl ?_
  refine KV (R_loadW ty30 0 rfl rfl rfl rfl) rfl ?_
  refine K_callO (first := []) [] _ (List.Perm.refl _) c2038 rfl rfl rfl (asked_spec a _ _ _ t _ H ha hrk hr hb) ?_
  rintro r14 V1 q14 hv1 ⟨hA1, hA2⟩
  by_cases hask : askErr a t ≠ 0
  ·
    obtain ⟨rfl, rfl⟩ := hA1 hask
    dsimp only [List.nil_append]
    refine KV (R_move rfl) rfl ?_
    refine KV (R_extract rfl rfl) rfl ?_
    refine KV (R_extract rfl rfl) rfl ?_
    refine KV (R_extract rfl rfl) rfl ?_
    refine KV (R_assign rfl) rfl ?_
    refine KV (R_assign rfl) rfl ?_
    refine KV (R_assign rfl) rfl ?_
    refine K_nil ?_
    refine Q_then ?_
    refine K_seq ?_
    refine K_seq ?_
    refine K_region ?_
    refine KV (R_move rfl) rfl ?_
    refine KV (R_cmp rfl rfl rfl) rfl ?_
    refine K_nil ?_
    refine Q_then ?_
    refine K_if rfl (fun h19 => ?_) (fun h19 => ?_)
    ·
      refine K_seq ?_
      refine K_region ?_
      refine KV (R_move rfl) rfl ?_
      refine KV (R_assign rfl) rfl ?_
      refine KV (R_assign rfl) rfl ?_
      refine K_nil ?_
      refine Q_then ?_
      refine K_ret ?_
      refine Q_then_ret ?_
      refine results_sel [] rfl (rs := [.tmp 4, .tmp 5]) (vs := [_, _]) rfl ⟨rfl, ⟨rfl, trivial⟩⟩ ?_
      exact ⟨nilS, rfl, fun _ => rfl, fun h => absurd h hask⟩
    ·
      exact (h19 hask).elim
  ·
    have hask0 : askErr a t = 0 := Decidable.not_not.1 hask
    obtain ⟨nd, bv, rfl, hnd, hbk, rfl⟩ := hA2 hask0
    dsimp only [List.cons_append, List.nil_append]
    obtain ⟨hok, hsz, hnodes⟩ := askErr_zero hask0
    have hsl := sortO_len a.rules
    have hul2 := hok.ul
    refine KV (R_move rfl) rfl ?_
    refine KV (R_extract rfl rfl) rfl ?_
    refine KV (R_extract rfl rfl) rfl ?_
    refine KV (R_extract rfl rfl) rfl ?_
    refine KV (R_assign rfl) rfl ?_
    refine KV (R_assign rfl) rfl ?_
    refine KV (R_assign rfl) rfl ?_
    refine K_nil ?_
    refine Q_then ?_
    refine K_seq ?_
    refine K_seq ?_
    refine K_region ?_
    refine KV (R_move rfl) rfl ?_
    refine KV (R_cmp rfl rfl rfl) rfl ?_
    refine K_nil ?_
    refine Q_then ?_
    refine K_if rfl (fun h19 => ?_) (fun h19 => ?_)
    ·
      exact (h19 rfl).elim
    ·
      refine K_skip ?_
      refine Q_then ?_
      refine K_seq ?_
      refine K_region ?_
      refine KV (R_assign rfl) rfl ?_
      refine K_nil ?_
      refine Q_then ?_
      refine K_seq ?_
      refine K_seq ?_
      obtain ⟨lv, sv, rb, kvs, hnA, hrb, hrp⟩ := hnd.head
      have hn2 := hnA.one (j := 2) rfl
      obtain ⟨hkeys, hkl⟩ := run_keys hrp
      refine K_region ?_
      refine KV (R_move rfl) rfl ?_
      refine KV (R_nilCheck rfl) rfl ?_
      refine KV (R_fieldAddr 2 fd2038_2 rfl) rfl ?_
      refine KV (R_loadH ty2035 rfl (hn2) rfl (fun _ => rfl) rfl) rfl ?_
      refine K_range mt2035 rfl (.inl hrb) rfl fun b25 => ?_
      refine K_nil ?_
      refine Q_then ?_
      refine K_block ?_
      refine K_nilrow T3 1 ?_
      refine K_loopD (G := List Nat × Value) [9, 10, 26, 27, 28, 29, 30, 31, 32, 33] (fun g => [(9, g.2)]) (fun hl g => ((hl.set 1 (blk b25 (itO rb kvs.length g.1))).set 0 (row g.2 T3 1 g.1.length (ints (keysAt kvs g.1))))) (fun g => V1) (fun g => (g.1.Nodup) ∧ (∀ i ∈ g.1, i < kvs.length) ∧ (∃ wa wc, g.2 = .slice wa g.1.length wc)) (fun g => kvs.length - g.1.length) ([], nilS) ⟨List.nodup_nil, fun i hi => (by cases hi), none, 0, rfl⟩ ⟨rfl, trivial⟩ (by simp only [args0, Nat.reduceAdd, del, memN, beqN, Nat.reduceBEq, cond_true, cond_false]; rfl) rfl rfl ?_
      rintro ⟨seen, w⟩ ⟨hsn, hslt, hw⟩
      dsimp only at hsn hslt hw
      dsimp only [List.set, List.cons_append, List.nil_append]
      obtain ⟨wa, wc, rfl⟩ := hw
      have hsl3 := seen_len hsn hslt
      refine K_seq ?_
      refine K_region ?_
      refine K_next 1 rfl rfl (.inl hrb) rfl (fun hall => ?_) (fun i q u hki hni => ?_)
      ·
        refine KV (R_extract rfl rfl) rfl ?_
        refine K_nil ?_
        refine Q_then ?_
        refine K_seq ?_
        refine K_ifF rfl ?_
        refine K_exit ?_
        refine Q_then_exit ?_
        refine Q_then_exit ?_
        refine Q_block_exit ?_
        refine Q_then ?_
        refine K_seq ?_
        refine K_region ?_
        refine KV (R_move rfl) rfl ?_
        have hso := sortI_spec (keysAt kvs seen) (.slice wa seen.length wc) V1 (by rw [keysAt_len]; omega)
        rw [keysAt_len] at hso
        refine KO_sel [0, 0, 0, 0, 0] rfl ?_
        refine K_callO (first := []) [_] _ (List.Perm.refl _) c2039 rfl rfl rfl hso ?_
        rintro _ V2 q35 hv2 ⟨rfl, rfl, ys, hp, hs, rfl⟩
        dsimp only [List.cons_append, List.nil_append]
        refine K_nil ?_
        refine Q_then ?_
        refine K_seq ?_
        refine K_region ?_
        refine KV (R_move rfl) rfl ?_
        refine KV (R_assign rfl) rfl ?_
        refine KV (R_assign rfl) rfl ?_
        refine K_nil ?_
        refine Q_then ?_
        refine K_ret ?_
        refine KQ_pubrow rfl fun Up hUp hrow => ?_
        refine results_sel [] rfl (rs := [.tmp 4, .tmp 5]) (vs := [_, _]) rfl ⟨rfl, ⟨rfl, trivial⟩⟩ ?_
        have hperm := keysAt_all hsn hslt hall
        have hpk := hp.trans hperm
        have hmem : ∀ q, q ∈ ys ↔ 0 < t.cnt (sortO a.rules) q := fun q => hpk.mem_iff.trans (hkeys q)
        refine ⟨_, by rw [hask0]; rfl, fun h => absurd h hask, fun _ => ⟨ys, ⟨perm_lt hpk hrp.1 hs, hmem⟩, ⟨hrow.sl, fun x hx => ?_⟩, ?_⟩⟩
        · obtain ⟨r, hr2, rfl⟩ := cnt_pos_to ((hmem x).1 hx)
          exact (hab.u r (sortO_mem.1 hr2)).2.2.1
        · have := hpk.length_eq
          rw [List.length_map] at this
          omega
      ·
        obtain ⟨hnd2, hlt2, hle2⟩ := seen_snoc hsn hslt hni (List.getElem?_eq_some_iff.1 hki).1
        refine KV (R_extract rfl rfl) rfl ?_
        refine K_nil ?_
        refine Q_then ?_
        refine K_seq ?_
        refine K_ifT rfl ?_
        refine K_skip ?_
        refine Q_then ?_
        refine K_block ?_
        refine K_seq ?_
        refine K_region ?_
        refine KV (R_entry 1 rfl rfl (.inl hrb) hki) rfl ?_
        refine KV (R_extract rfl rfl) rfl ?_
        refine KV (R_assign rfl) rfl ?_
        refine K_nil ?_
        refine Q_then ?_
        refine K_region ?_
        refine KV (R_move rfl) rfl ?_
        refine KV (R_move rfl) rfl ?_
        refine KA (A_buildSlice (vs := [.int .i64 q]) sl25 ty3 z3 rfl rfl (by simp [Value.cells]) (by simp) rfl (by decide)) rfl fun b32 => ?_
        refine K_append1 0 ap25 rfl rfl rfl rfl rfl rfl ⟨by omega, by omega⟩ rfl fun a33 k33 hn33 => ?_
        refine KV (R_assign rfl) rfl ?_
        refine K_nil ?_
        refine Q_block ?_
        refine Q_nextD (seen ++ [i], .slice a33 (seen.length + 1) k33) ⟨hnd2, hlt2, _, _, by dsimp only; rw [List.length_append]; rfl⟩ (by dsimp only; rw [List.length_append]; simp only [List.length_cons, List.length_nil]; omega) ⟨rfl, trivial⟩ rfl (by dsimp only [List.set]; rw [List.length_append, keysAt_snoc hki, ints_snoc]; rfl) rfl
end Go.Proofs.X

namespace Go.Proofs.X
open Go Pal Go.Proofs
attribute [local irreducible] Pal.KO Pal.KC Pal.KQ Pal.KD
theorem c2011 : callable Tryz.prog F2011 = true := by kernel_rfl
theorem c2040 : callable Tryz.prog F2040 = true := by kernel_rfl
theorem c2041 : callable Tryz.prog F2041 = true := by kernel_rfl
theorem acc1_spec (b : Nat) (v0 v1 v2 vf : Value) (F : List Int) (q : Int) (H : View) (hb : At H b 0 [v0, v1, v2, vf]) (hf : SI H vf F) (hl : F.length ≤ 1099511627776) : Sat Tryz.prog F2040 ([] ++ [Value.int .i64 q] ++ [ptr b]).toArray H (fun r _ => r = .bool (decide (q ∈ F))) := by
  have hb3 := hb.one (j := 3) rfl
  obtain ⟨fa, fc, rfl⟩ := hf.shape
  refine enterO (n := 8) (args := [.int .i64 q, ptr b]) Tryz.func57 rfl rfl rfl fun w0 => ?_
  refine K_seq ?_
  refine K_region ?_
  refine KV (R_assign rfl) rfl ?_
  refine K_nil ?_
  refine Q_then ?_
  refine K_seq ?_
  refine K_region ?_
  refine KV (R_fieldAddr 3 fd50_3 rfl) rfl ?_
  refine KV (R_loadH ty25 rfl (hb3) rfl (fun _ => rfl) rfl) rfl ?_
  refine KV (R_move rfl) rfl ?_
  refine K_call c2041 rfl rfl (containsI_spec q F _ H hf hl) ?_
  rintro _ V1 hv1 rfl
  refine KV (R_assign rfl) rfl ?_
  refine K_nil ?_
  refine Q_then ?_
  refine K_ret ?_
  refine results_gen (rs := [.tmp 3]) (vs := [_]) rfl ⟨rfl, trivial⟩ ?_
  rfl

theorem accepts_spec (a : Au) (vr vu vf : Value) (t : Tr) (cs : List Value) (H : View) (ha : RepAu H a vr vu vf) (hrk : a.ranks.length ≤ 1048576) (hr : RepT H t cs) (hb : t.size ≤ 1048576) : Sat Tryz.prog F2012 #[.agg #[vr, .int .i64 a.states, vu, vf], .agg cs.toArray] H (fun r _ => r = .bool (accA a t)) := by
  obtain ⟨ra, rcp, rfl⟩ := ha.r.shape
  obtain ⟨fa, fcp, rfl⟩ := ha.f.shape
  obtain ⟨ua, ucp, rfl⟩ := ha.ushape
  have hrl := ha.rl
  have hul := ha.ul
  have hfl := ha.fl
  obtain ⟨x0, x1, x2, x3, rfl⟩ := hr.shape
  refine enterO (n := 20) (args := [.agg #[.slice ra a.ranks.length rcp, .int .i64 a.states, .slice ua a.rules.length ucp, .slice fa a.final.length fcp], .agg #[.int .i64 x0, .slice x1 x2 x3]]) Tryz.func20 rfl rfl rfl fun w0 => ?_
  refine K_seq ?_
  refine K_region ?_
  refine KA (A_box rfl) rfl fun b2 => ?_
  refine KA (A_box rfl) rfl fun b3 => ?_
  refine KV (R_assign rfl) rfl ?_
  refine K_nil ?_
  refine KQ_front 1 rfl ?_
  refine KQ_pubF fun U hU hb2 => ?_
  try dsimp only [List.eraseIdx]
  refine Q_then ?_
  refine K_seq ?_
  have hb2A : At U b2 0 [.slice ra a.ranks.length rcp, .int .i64 a.states, .slice ua a.rules.length ucp, .slice fa a.final.length fcp] := At.of hb2
  refine K_region ?_
  refine KV (R_loadH ty50 rfl (hb2A) rfl (fun e => by cases e) rfl) rfl ?_
  refine KV (R_loadW ty30 0 rfl rfl rfl rfl) rfl ?_
  refine K_call c2011 rfl rfl (reach_spec a _ _ _ t _ U (ha.mono hU) hrk (hr.mono hU) hb) ?_
  rintro _ V1 hv1 ⟨v, rfl, hE1, hE2⟩
  refine KV (R_move rfl) rfl ?_
  refine KV (R_extract rfl rfl) rfl ?_
  refine KV (R_extract rfl rfl) rfl ?_
  refine KV (R_assign rfl) rfl ?_
  refine KV (R_assign rfl) rfl ?_
  refine K_nil ?_
  refine Q_then ?_
  refine K_seq ?_
  refine K_region ?_
  refine KV (R_move rfl) rfl ?_
  refine KV (R_cmp rfl rfl rfl) rfl ?_
  refine K_split ?_ ?_
  ·
    intro h14
    obtain ⟨L, hRe, hSI, hLl⟩ := hE2 h14
    obtain ⟨la, lc, rfl⟩ := hSI.shape
    refine KV (R_move rfl) rfl ?_
    refine K_gyes rfl rfl ?_
    refine KV (R_move rfl) rfl ?_
    refine K_gyes rfl rfl ?_
    refine KV (R_makeFunc rfl rfl) rfl ?_
    refine K_gyes rfl rfl ?_
    refine K_call c86 rfl rfl (sicon_spec F2040 [ptr b2] (fun q => decide (q ∈ a.final)) L _ V1 hSI (by omega) c2040 (fun x V hx hV => acc1_spec b2 _ _ _ _ a.final x V (hb2A.mono (hv1.trans hV)) (ha.mono (hU.trans (hv1.trans hV))).f hfl)) ?_
    rintro _ V2 hv2 rfl
    refine KV (R_pickT rfl rfl) rfl ?_
    refine KV (R_assign rfl) rfl ?_
    refine K_nil ?_
    refine Q_then ?_
    refine K_ret ?_
    refine results_gen (rs := [.tmp 4]) (vs := [_]) rfl ⟨rfl, trivial⟩ ?_
    unfold accA
    rw [h14, acc_any hRe]
    simp [tupV]
  ·
    intro h14
    refine KV (R_move rfl) rfl ?_
    refine K_gno rfl rfl rfl rfl ?_
    refine K_gno rfl rfl rfl rfl ?_
    refine K_gno rfl rfl rfl rfl ?_
    refine KV (R_pickF rfl rfl) rfl ?_
    refine KV (R_assign rfl) rfl ?_
    refine K_nil ?_
    refine Q_then ?_
    refine K_ret ?_
    refine results_gen (rs := [.tmp 4]) (vs := [_]) rfl ⟨rfl, trivial⟩ ?_
    unfold accA
    simp [tupV, h14]
end Go.Proofs.X

namespace Go.Proofs.X
open Go Pal Go.Proofs
attribute [local irreducible] Pal.KO Pal.KC Pal.KQ Pal.KD

theorem countruns_spec (a : Au) (vr vu vf : Value) (t : Tr) (cs : List Value) (H : View) (ha : RepAu H a vr vu vf) (hrk : a.ranks.length ≤ 1048576) (hr : RepT H t cs) (hb : t.size ≤ 1048576) : Sat Tryz.prog F2016 #[.agg #[vr, .int .i64 a.states, vu, vf], .agg cs.toArray] H (fun r H' => ∃ v, r = .tuple #[v, .int .i64 (askErr a t)] ∧ (askErr a t ≠ 0 → v = natZ) ∧ (askErr a t = 0 → NatAt H' v (cntA a t (sortI a.final)))) := by
  obtain ⟨ra, rcp, rfl⟩ := ha.r.shape
  obtain ⟨fa, fcp, rfl⟩ := ha.f.shape
  obtain ⟨ua, ucp, rfl⟩ := ha.ushape
  have hrl := ha.rl
  have hul := ha.ul
  have hfl := ha.fl
  obtain ⟨x0, x1, x2, x3, rfl⟩ := hr.shape
  refine enterO (n := 41) (args := [.agg #[.slice ra a.ranks.length rcp, .int .i64 a.states, .slice ua a.rules.length ucp, .slice fa a.final.length fcp], .agg #[.int .i64 x0, .slice x1 x2 x3]]) Tryz.func25 rfl rfl rfl fun w0 => ?_
  refine K_seq ?_
  refine K_region ?_
  refine KA (A_box rfl) rfl fun b2 => ?_
  refine KA (A_box rfl) rfl fun b3 => ?_
  refine KA (A_alloc z2009) rfl fun b4 => ?_
  refine KV (R_assign rfl) rfl ?_
  refine K_nil ?_
  refine Q_then ?_
  refine K_seq ?_
  refine K_region ?_
  refine KV (R_loadW ty50 2 rfl rfl rfl rfl) rfl ?_
  refine KV (R_loadW ty30 1 rfl rfl rfl rfl) rfl ?_
  refine K_callO (first := []) [] _ (List.Perm.refl _) c2038 rfl rfl rfl (asked_spec a _ _ _ t _ H ha hrk hr hb) ?_
  rintro r14 V1 q14 hv1 ⟨hA1, hA2⟩
  by_cases hask : askErr a t ≠ 0
  ·
    obtain ⟨rfl, rfl⟩ := hA1 hask
    dsimp only [List.nil_append]
    refine KV (R_move rfl) rfl ?_
    refine KV (R_extract rfl rfl) rfl ?_
    refine KV (R_extract rfl rfl) rfl ?_
    refine KV (R_extract rfl rfl) rfl ?_
    refine KV (R_assign rfl) rfl ?_
    refine KV (R_assign rfl) rfl ?_
    refine KV (R_assign rfl) rfl ?_
    refine K_nil ?_
    refine Q_then ?_
    refine K_seq ?_
    refine K_region ?_
    refine KA (A_alloc z2009) rfl fun b9 => ?_
    refine K_nil ?_
    refine Q_then ?_
    refine K_seq ?_
    refine K_seq ?_
    refine K_region ?_
    refine KV (R_move rfl) rfl ?_
    refine KV (R_cmp rfl rfl rfl) rfl ?_
    refine K_nil ?_
    refine Q_then ?_
    refine K_if rfl (fun h20 => ?_) (fun h20 => ?_)
    ·
      refine K_seq ?_
      refine K_region ?_
      refine KV (R_loadW ty2009 0 rfl rfl rfl rfl) rfl ?_
      refine KV (R_move rfl) rfl ?_
      refine K_storeW ty2009 1 rfl rfl rfl rfl rfl rfl rfl ?_
      refine KV (R_assign rfl) rfl ?_
      refine K_nil ?_
      refine Q_then ?_
      refine K_ret ?_
      refine Q_then_ret ?_
      refine results_sel [] rfl (rs := [.cell 4 56, .tmp 5]) (vs := [_, _]) rfl ⟨⟨_, _, _, _, _, _, 1, rfl, rfl, ty2009, (fun e => by cases e), rfl, rfl⟩, ⟨rfl, trivial⟩⟩ ?_
      exact ⟨_, rfl, fun _ => rfl, fun h => absurd h hask⟩
    ·
      exact (h20 hask).elim
  ·
    have hask0 : askErr a t = 0 := Decidable.not_not.1 hask
    obtain ⟨nd, bv, rfl, hnd, hbk, rfl⟩ := hA2 hask0
    dsimp only [List.cons_append, List.nil_append]
    obtain ⟨hok, hsz, hnodes⟩ := askErr_zero hask0
    have hsl := sortO_len a.rules
    have hul2 := hok.ul
    refine KV (R_move rfl) rfl ?_
    refine KV (R_extract rfl rfl) rfl ?_
    refine KV (R_extract rfl rfl) rfl ?_
    refine KV (R_extract rfl rfl) rfl ?_
    refine KV (R_assign rfl) rfl ?_
    refine KV (R_assign rfl) rfl ?_
    refine KV (R_assign rfl) rfl ?_
    refine K_nil ?_
    refine Q_then ?_
    refine K_seq ?_
    refine K_region ?_
    refine KA (A_alloc z2009) rfl fun b9 => ?_
    refine K_nil ?_
    refine Q_then ?_
    refine K_seq ?_
    refine K_seq ?_
    refine K_region ?_
    refine KV (R_move rfl) rfl ?_
    refine KV (R_cmp rfl rfl rfl) rfl ?_
    refine K_nil ?_
    refine Q_then ?_
    refine K_if rfl (fun h20 => ?_) (fun h20 => ?_)
    ·
      exact (h20 rfl).elim
    ·
      refine K_skip ?_
      refine Q_then ?_
      refine K_seq ?_
      refine K_seq ?_
      obtain ⟨lv, sv, rb, kvs, hnA, hrb, hrp⟩ := hnd.head
      have hn2 := hnA.one (j := 2) rfl
      refine K_region ?_
      refine KV (R_loadW ty50 4 rfl rfl rfl rfl) rfl ?_
      refine K_callO (first := []) [] _ (List.Perm.refl _) c2045 rfl rfl rfl (sortedP_spec a _ _ _ V1 (ha.mono hv1)) ?_
      rintro _ V2 q24 hv2 ⟨rfl, ⟨s1, s2, s3, rfl, hN⟩, _⟩
      dsimp only [List.nil_append]
      have hF : SI V2 s3 (sortI a.final) := hN.f
      obtain ⟨sa, sc, rfl⟩ := hF.shape
      have hfl2 := sortI_len a.final
      refine KV (R_fieldC (o := 3) (ft := T25) (by kernel_rfl) ty25 rfl rfl) rfl ?_
      refine KV (R_len sl25 rfl) rfl ?_
      refine KV (R_move rfl) rfl ?_
      refine K_nil ?_
      refine Q_then ?_
      refine K_block ?_
      refine K_loopD (G := Nat × View × Value) [11, 27, 28, 29, 30, 31, 32, 33, 34, 35, 36, 37, 38, 39] (fun g => [(27, .int .i64 (g.1 : Int))]) (fun hl g => (hl.set 0 (blk b9 (.cells #[g.2.2] T2009 (0, 0))))) (fun g => g.2.1) (fun g => (g.1 ≤ (sortI a.final).length) ∧ (VLe V2 g.2.1) ∧ (∃ wa wk wc, g.2.2 = .slice wa wk wc ∧ RepN g.2.1 (.slice wa wk wc) (cntA a t ((sortI a.final).take g.1)))) (fun g => (sortI a.final).length - g.1) (0, V2, .slice none 0 0) ⟨Nat.zero_le _, VLe.refl _, none, 0, 0, rfl, RepN.zero _⟩ ⟨rfl, trivial⟩ (by simp only [args0, Nat.reduceAdd, del, memN, beqN, Nat.reduceBEq, cond_true, cond_false]; rfl) rfl rfl ?_
      rintro ⟨k, V, w⟩ ⟨hk, hV, hw⟩
      dsimp only at hk hV hw
      dsimp only [List.set, List.cons_append, List.nil_append]
      obtain ⟨wa, wk, wc, rfl, hwN⟩ := hw
      refine K_seq ?_
      refine K_region ?_
      refine KV (R_cmp rfl rfl rfl) rfl ?_
      refine K_nil ?_
      refine Q_then ?_
      refine K_seq ?_
      refine K_if rfl (fun h28 => ?_) (fun h28 => ?_)
      ·
        have hk' : k < (sortI a.final).length := by omega
        obtain ⟨tb, to_, hte, hta⟩ := (hF.mono hV).get hk'
        cases hte
        obtain ⟨oa, ok2, oc, hov, hoN⟩ := (hrp.mono (hv2.trans hV)).val (sortI a.final)[k]
        refine K_skip ?_
        refine Q_then ?_
        refine K_seq ?_
        refine K_block ?_
        refine K_seq ?_
        refine K_region ?_
        refine KV (R_indexN sl25 ty3 rfl rfl (by omega)) rfl ?_
        refine KV (R_loadH ty3 rfl (hta) rfl (fun _ => rfl) rfl) rfl ?_
        refine KV (R_assign rfl) rfl ?_
        refine K_nil ?_
        refine Q_then ?_
        refine K_regionD (fin := true) (R := [0, 1, 2, 3, 4, 5, 6, 7, 8]) (by kernel_rfl) mixed (.cons_cons _ (.cons _ (.cons _ (.cons _ (.cons _ (List.nil_sublist _)))))) ?_
        refine D_val rfl rfl rfl (R_loadW ty2009 0 rfl rfl rfl rfl) ?_
        refine D_val rfl rfl rfl (R_move rfl) ?_
        refine D_val rfl rfl rfl (R_nilCheck rfl) ?_
        refine D_val rfl rfl rfl (R_fieldAddr 2 fd2038_2 rfl) ?_
        refine D_val rfl rfl rfl (R_loadH ty2035 rfl (hn2.mono (hv2.trans hV)) rfl (fun _ => rfl) rfl) ?_
        refine D_val rfl rfl rfl (R_move rfl) ?_
        refine D_val rfl rfl rfl (R_lookV mt2035 (by kernel_rfl) z2009 rfl rfl (.inl ((hv2.trans hV) _ _ hrb)) (show (lookI kvs (sortI a.final)[k]).getD natZ = .agg #[.slice oa ok2 oc] from hov)) ?_
        refine D_call rfl rfl c2035 rfl ⟨⟨0, rfl⟩, trivial⟩ (addNN_spec (cntA a t ((sortI a.final).take k)) (t.cnt (sortO a.rules) (sortI a.final)[k]) _ _ V hwN hoN (Nat.lt_of_le_of_lt cntA_take_le (cntA_big hok (by omega) hsz)) (cnt_big (by omega) (by omega) _)) ?_
        rintro _ V3 hv3 ⟨ma, mk, mc, rfl, hSN⟩
        refine D_lastStoreW ty2009 0 rfl rfl rfl rfl rfl rfl rfl rfl rfl ?_
        refine Q_block ?_
        refine Q_then ?_
        refine K_region ?_
        refine KV (R_add rfl rfl (by omega)) rfl ?_
        refine KV (R_move rfl) rfl ?_
        refine K_nil ?_
        refine Q_nextD (k + 1, V3, .slice ma mk mc) ⟨hk', hV.trans hv3, ma, mk, mc, rfl, by rw [cntA_snoc hk']; exact hSN⟩ (by (try dsimp only); omega) ⟨rfl, trivial⟩ rfl rfl rfl
      ·
        have hk' : k = (sortI a.final).length := by omega
        rw [hk', List.take_length] at hwN
        refine K_exit ?_
        refine Q_then_exit ?_
        refine Q_then_exit ?_
        refine Q_block_exit ?_
        refine Q_then ?_
        refine K_seq ?_
        refine K_region ?_
        refine KV (R_loadW ty2009 0 rfl rfl rfl rfl) rfl ?_
        refine K_storeW ty2009 2 rfl rfl rfl rfl rfl rfl rfl ?_
        refine KV (R_assign rfl) rfl ?_
        refine K_nil ?_
        refine Q_then ?_
        refine K_ret ?_
        refine results_sel [] rfl (rs := [.cell 4 56, .tmp 5]) (vs := [_, _]) rfl ⟨⟨_, _, _, _, _, _, 2, rfl, rfl, ty2009, (fun e => by cases e), rfl, rfl⟩, ⟨rfl, trivial⟩⟩ ?_
        exact ⟨_, by rw [hask0]; rfl, fun h => absurd hask0 h, fun _ => ⟨wa, wk, wc, rfl, hwN⟩⟩
end Go.Proofs.X

namespace Go.Proofs.X
open Go Pal Go.Proofs
attribute [local irreducible] Pal.KO Pal.KC Pal.KQ Pal.KD
theorem ty2031 : Ty Tryz.prog T2031 false 1 := .of (by kernel_rfl)
theorem c2043 : callable Tryz.prog F2043 = true := by kernel_rfl
theorem least1_spec (rs : List Rl) (ts : List Tr) (ns : List Nd) (ms : List Md) (r : Rl) (va bv : Value) (pq pb pn pw nb : Nat) (q : Int) (a : Option Addr) (cap : Nat) (sv rv lv w : Value) (o : Option (List Int)) (H : View)
    (hrv : RVok H (r, va)) (hA5 : At H pq 0 [.int .i64 q]) (hA3 : At H pb 0 [bv]) (hA4 : At H pn 0 [ptr nb]) (hn : At H nb 0 [.slice a ts.length cap, sv, rv, lv]) (hcp : ∀ i, i < ts.length → ∃ b off, a = some ⟨b, off, none⟩ ∧ ∃ h2 : i < ns.length, At H b (off + i * 1) [ptr ns[i].b])
    (hns : ns.length = ts.length) (hms : ms.length = ts.length) (hmd : ∀ i (h : i < ts.length) (h2 : i < ns.length) (h3 : i < ms.length), MdOk H rs ts[i] ns[i] ms[i])
    (hrec : ∀ i (h : i < ts.length) (h2 : i < ns.length) V md x, VLe H V → MdOk V rs ts[i] ns[i] md → 0 < Tr.cnt rs ts[i] x → i64ok x → SatO Tryz.prog F2043 #[bv, ptr ns[i].b, .int .i64 x] V [many md.maps] (fun v V' p => ∃ md' y, p = [many md'.maps] ∧ MdOk V' rs ts[i] ns[i] md' ∧ Tr.least rs ts[i] x = some y ∧ SI V' v y))
    (hl : r.args.length = ts.length) (hpos : ∀ i, i < ts.length → 0 < cntF rs ts i (r.args.getD i 0)) (hq : i64ok q) (hsz : Tr.sizes ts ≤ 1048576) (hb : BestW H w o) :
    SatO Tryz.prog F2070 ([] ++ [Value.agg (cellRV (r, va)).toArray] ++ [ptr pq, ptr pb, ptr pn, ptr pw]).toArray H [blk pw (.cells #[w] T25 (0, 0)), many (Md.mapss ms)] (fun _ V p => ∃ e r', p = [e, many r'] ∧ ∃ w' ms', e = blk pw (.cells #[w'] T25 (0, 0)) ∧ r' = Md.mapss ms' ∧ ms'.length = ts.length ∧ (∀ i (h : i < ts.length) (h2 : i < ns.length) (h3 : i < ms'.length), MdOk V rs ts[i] ns[i] ms'[i]) ∧ BestW V w' (if r.to = q then bestO o (ltTo rs ts r.args ts.length ++ [q]) else o)) := by
  obtain ⟨xa, xcp, hxe⟩ := hrv.1.shape
  dsimp only at hxe
  subst hxe
  have hn0 := hn.one (j := 0) rfl
  have hlen : (ltTo rs ts r.args ts.length).length ≤ 1048576 := Nat.le_trans (ltTo_len (Nat.le_refl _)) (Nat.le_trans (Tr.sizes_take_le ts _) hsz)
  have hxl := hrv.2.1
  dsimp only at hxl
  refine enterO (n := 47) (args := [.agg #[.int .i64 r.sym, .slice xa r.args.length xcp, .int .i64 r.to], ptr pq, ptr pb, ptr pn, ptr pw]) Tryz.func101 rfl rfl rfl fun w0 => ?_
  refine K_seq ?_
  refine K_region ?_
  refine KA (A_box rfl) rfl fun b5 => ?_
  refine K_nil ?_
  refine Q_then ?_
  refine K_seq ?_
  refine K_seq ?_
  refine K_region ?_
  refine KV (R_fieldAddr 2 fd85_2 rfl) rfl ?_
  refine KV (R_loadO ty3 0 rfl rfl rfl rfl (fun _ => rfl) rfl) rfl ?_
  refine KV (R_loadH ty3 rfl (hA5) rfl (fun _ => rfl) rfl) rfl ?_
  refine KV (R_cmp rfl rfl rfl) rfl ?_
  refine K_nil ?_
  refine Q_then ?_
  refine K_if rfl (fun h12 => ?_) (fun h12 => ?_)
  ·
    refine K_ret ?_
    refine Q_then_ret ?_
    refine results_sel [1, 1] rfl (rs := []) (vs := []) rfl trivial ?_
    exact ⟨_, _, rfl, w, ms, rfl, rfl, hms, hmd, by rw [if_neg h12]; exact hb⟩
  ·
    have hto : r.to = q := Decidable.not_not.1 h12
    refine K_skip ?_
    refine Q_then ?_
    refine K_seq ?_
    refine K_region ?_
    refine KV (R_assign rfl) rfl ?_
    refine K_nil ?_
    refine Q_then ?_
    refine K_seq ?_
    refine K_seq ?_
    refine K_region ?_
    refine KV (R_fieldAddr 1 fd85_1 rfl) rfl ?_
    refine KV (R_loadO ty25 0 rfl rfl rfl rfl (fun _ => rfl) rfl) rfl ?_
    refine KV (R_len sl25 rfl) rfl ?_
    refine KV (R_move rfl) rfl ?_
    refine K_nil ?_
    refine Q_then ?_
    refine K_block ?_
    refine K_nilrow T3 1 ?_
    refine K_loopD (G := Nat × View × Value × List Md) [6, 7, 8, 16, 17, 18, 19, 20, 21, 22, 23, 24, 25, 26, 27, 28, 29, 30, 31, 32, 33] (fun g => [(16, .int .i64 (g.1 : Int)), (6, g.2.2.1)]) (fun hl g => ((hl.set 3 (many (Md.mapss g.2.2.2))).set 0 (row g.2.2.1 T3 1 (ltTo rs ts r.args g.1).length (ints (ltTo rs ts r.args g.1))))) (fun g => g.2.1) (fun g => (g.1 ≤ r.args.length) ∧ (VLe H g.2.1) ∧ (g.2.2.2.length = ts.length) ∧ (∀ i (h : i < ts.length) (h2 : i < ns.length) (h3 : i < g.2.2.2.length), MdOk g.2.1 rs ts[i] ns[i] g.2.2.2[i]) ∧ (∀ x ∈ ltTo rs ts r.args g.1, i64ok x) ∧ (∃ ra rc, g.2.2.1 = .slice ra (ltTo rs ts r.args g.1).length rc)) (fun g => r.args.length - g.1) (0, H, nilS, ms) ⟨Nat.zero_le _, VLe.refl _, hms, hmd, fun x hx => (by cases hx), none, 0, rfl⟩ ⟨rfl, rfl, trivial⟩ (by simp only [args0, Nat.reduceAdd, del, memN, beqN, Nat.reduceBEq, cond_true, cond_false]; rfl) rfl rfl ?_
    rintro ⟨j, V, w1, mz⟩ ⟨hj, hV, hmzl, hmz, hi64, hw1⟩
    dsimp only at hj hV hmzl hmz hi64 hw1
    dsimp only [List.set, List.cons_append, List.nil_append]
    obtain ⟨ra, rc, rfl⟩ := hw1
    refine K_seq ?_
    refine K_region ?_
    refine KV (R_cmp rfl rfl rfl) rfl ?_
    refine K_nil ?_
    refine Q_then ?_
    refine K_seq ?_
    refine K_if rfl (fun h17 => ?_) (fun h17 => ?_)
    ·
      have hj' : j < r.args.length := by omega
      have hjt : j < ts.length := by omega
      have hjn : j < ns.length := by omega
      have hjm : j < mz.length := by omega
      obtain ⟨xb, xo, hxe2, hxa⟩ := (hrv.1.mono hV).get hj'
      cases hxe2
      obtain ⟨cb0, co, hae, _, hcp1⟩ := hcp j hjt
      subst hae
      have hgd : r.args.getD j 0 = r.args[j] := by simp [List.getD, hj']
      have hcj : 0 < Tr.cnt rs ts[j] r.args[j] := by have := hpos j hjt; rw [hgd] at this; simpa [cntF, hjt] using this
      have hl1 := ltTo_len (rs := rs) (args := r.args) (ts := ts) (j := j) (by omega)
      have hl2 := Tr.sizes_take_le ts j
      have hl3 := sizes_ge hjt
      refine K_skip ?_
      refine Q_then ?_
      refine K_seq ?_
      refine K_block ?_
      refine K_seq ?_
      refine K_region ?_
      refine KV (R_move rfl) rfl ?_
      refine KV (R_indexN sl25 ty3 rfl rfl (by omega)) rfl ?_
      refine KV (R_loadH ty3 rfl (hxa) rfl (fun _ => rfl) rfl) rfl ?_
      refine KV (R_assign rfl) rfl ?_
      refine KV (R_assign rfl) rfl ?_
      refine K_nil ?_
      refine Q_then ?_
      refine KC_front 3 rfl ?_
      refine KC_mapss_out hjm ?_
      refine K_regionD (fin := false) (R := [0, 1, 2, 3, 4, 5, 6, 7, 8, 9, 10, 11, 12]) (by kernel_rfl) mixed (.cons _ (.cons_cons _ (.cons _ (.cons_cons _ (.cons_cons _ (List.nil_sublist _)))))) ?_
      refine D_val rfl rfl rfl (R_move rfl) ?_
      refine D_val rfl rfl rfl (R_loadH ty2031 rfl (hA3.mono hV) rfl (fun _ => rfl) rfl) ?_
      refine D_val rfl rfl rfl (R_loadH ty2029 rfl (hA4.mono hV) rfl (fun _ => rfl) rfl) ?_
      refine D_val rfl rfl rfl (R_nilCheck rfl) ?_
      refine D_val rfl rfl rfl (R_fieldAddr 0 fd2038_0 rfl) ?_
      refine D_val rfl rfl rfl (R_loadH ty2034 rfl (hn0.mono hV) rfl (fun _ => rfl) rfl) ?_
      refine D_val rfl rfl rfl (R_move rfl) ?_
      refine D_val rfl rfl rfl (R_indexN sl2034 ty2029 rfl rfl (by omega)) ?_
      refine D_val rfl rfl rfl (R_loadH ty2029 rfl (hcp1.mono hV) rfl (fun _ => rfl) rfl) ?_
      refine D_val rfl rfl rfl (R_move rfl) ?_
      refine D_callO (first := []) [_] _ rfl rfl c2043 rfl rfl (List.Perm.refl _) ⟨⟨0, rfl⟩, ⟨2, rfl⟩, ⟨3, rfl⟩, trivial⟩ (hrec j hjt hjn V mz[j] r.args[j] hV (hmz j hjt hjn hjm) hcj (hrv.1.2 _ (List.getElem_mem hj'))) ?_
      rintro _ V1 q31 hv1 ⟨md2, y, rfl, hmd2, hly, hSy⟩
      obtain ⟨ya, yc, rfl⟩ := hSy.shape
      dsimp only [List.cons_append, List.nil_append]
      have hyl := least_len hly
      have hltA : ltAt rs ts r.args j = y := by unfold ltAt; rw [dif_pos hjt, hgd, hly]; rfl
      refine D_appendS 2 ap25 sl25 rfl rfl rfl rfl rfl ⟨⟨1, rfl⟩, ⟨2, rfl⟩, ⟨3, rfl⟩, trivial⟩ hSy.1 (by simp [ints]) (ints_one _) ⟨by omega, by omega⟩ fun a32 k32 => ?_

      refine D_val rfl rfl rfl (R_assign rfl) ?_
      refine D_done ?_
      refine KQ_front 2 rfl ?_
      refine KQ_front 2 rfl ?_
      refine KQ_mapss_in hjm ?_
      dsimp only [List.eraseIdx]
      refine Q_block ?_
      refine Q_then ?_
      refine K_region ?_
      refine KV (R_add rfl rfl (by omega)) rfl ?_
      refine KV (R_move rfl) rfl ?_
      refine K_nil ?_
      refine KQ_sel [1, 1, 1, 0] rfl ?_
      refine Q_nextD (j + 1, V1, .slice a32 ((ltTo rs ts r.args j).length + y.length) k32, mz.set j md2) ⟨hj', hV.trans hv1, by rw [List.length_set]; exact hmzl, md_set hmz hv1 hjt hjn hmd2, fun x hx => (by rw [ltTo, hltA] at hx; rcases List.mem_append.1 hx with hx | hx; exact hi64 x hx; exact hSy.2 x hx), _, _, by rw [ltTo, hltA, List.length_append]⟩ (by (try dsimp only); omega) ⟨rfl, rfl, trivial⟩ rfl (by dsimp only [List.set]; rw [ltTo, hltA, List.length_append, ints_append]) rfl
    ·
      have hj' : j = ts.length := by omega
      subst hj'
      refine K_exit ?_
      refine Q_then_exit ?_
      refine Q_then_exit ?_
      refine Q_block_exit ?_
      refine Q_then ?_
      refine K_seq ?_
      refine K_region ?_
      refine KV (R_move rfl) rfl ?_
      refine KV (R_loadH ty3 rfl (hA5.mono hV) rfl (fun _ => rfl) rfl) rfl ?_
      refine KA (A_buildSlice (vs := [.int .i64 q]) sl25 ty3 z3 rfl rfl (by simp [Value.cells]) (by simp) rfl (by decide)) rfl fun b36 => ?_
      refine K_append1 0 ap25 rfl rfl rfl rfl rfl rfl ⟨by omega, by omega⟩ rfl fun a37 k37 hn37 => ?_
      refine KV (R_assign rfl) rfl ?_
      refine K_nil ?_
      refine Q_then ?_
      refine K_seq ?_
      rcases hb with ⟨ho, hw0⟩ | ⟨x, ba, bc, ho, hw0, hSx, hxl2⟩
      ·
        subst hw0
        refine KC_pubrowF fun U hU hrunp hcap => ?_
        have hRun : SI U (.slice a37 ((ltTo rs ts r.args ts.length).length + 1) k37) (ltTo rs ts r.args ts.length ++ [q]) := ⟨by rw [ints_append, List.length_append]; exact hrunp.sl, fun x hx => by
          rcases List.mem_append.1 hx with hx | hx
          · exact hi64 x hx
          · simp at hx; subst hx; exact hq⟩
        refine K_region ?_
        refine KV (R_loadO ty25 1 rfl rfl rfl rfl (fun _ => rfl) rfl) rfl ?_
        refine KV (R_sliceNil sl25 rfl rfl) rfl ?_
        refine KV (R_move rfl) rfl ?_
        refine K_gno rfl rfl rfl rfl ?_
        refine K_gno rfl rfl rfl rfl ?_
        refine K_gno rfl rfl rfl rfl ?_
        refine K_gno rfl rfl rfl rfl ?_
        refine KV (R_pickT rfl rfl) rfl ?_
        refine K_nil ?_
        refine Q_then ?_
        refine K_ifT rfl ?_
        refine K_region ?_
        refine KV (R_move rfl) rfl ?_
        refine K_store ty25 1 rfl rfl rfl rfl rfl rfl ?_
        refine K_nil ?_
        refine Q_fall ?_
        refine results_sel [1, 1] rfl (rs := []) (vs := []) rfl trivial ?_
        refine ⟨_, _, rfl, _, mz, rfl, rfl, hmzl, fun i h h2 h3 => (hmz i h h2 h3).mono hU, ?_⟩
        rw [if_pos hto, ho]
        obtain ⟨aa, rfl⟩ := hRun.some_of (by simp)
        exact .inr ⟨_, aa, k37, rfl, by rw [List.length_append]; rfl, hRun, by rw [List.length_append]; simp; omega⟩
      ·
        subst hw0
        refine KC_pubrowF fun U hU hrunp hcap => ?_
        have hRun : SI U (.slice a37 ((ltTo rs ts r.args ts.length).length + 1) k37) (ltTo rs ts r.args ts.length ++ [q]) := ⟨by rw [ints_append, List.length_append]; exact hrunp.sl, fun x hx => by
          rcases List.mem_append.1 hx with hx | hx
          · exact hi64 x hx
          · simp at hx; subst hx; exact hq⟩
        refine K_region ?_
        refine KV (R_loadO ty25 1 rfl rfl rfl rfl (fun _ => rfl) rfl) rfl ?_
        refine KV (R_sliceNil sl25 rfl rfl) rfl ?_
        refine KV (R_move rfl) rfl ?_
        refine K_gyes rfl rfl ?_
        refine KV (R_move rfl) rfl ?_
        refine K_gyes rfl rfl ?_
        refine KV (R_loadO ty25 1 rfl rfl rfl rfl (fun _ => rfl) rfl) rfl ?_
        refine K_gyes rfl rfl ?_
        refine K_call c2044 rfl rfl (compareI_spec (ltTo rs ts r.args ts.length ++ [q]) x _ _ U hRun (hSx.mono (hV.trans hU)) (by rw [List.length_append]; simp; omega) (by omega)) ?_
        rintro _ V2 hv2 rfl
        refine K_gyes rfl rfl ?_
        refine KV (R_cmp rfl rfl rfl) rfl ?_
        refine KV (R_pickF rfl rfl) rfl ?_
        refine K_nil ?_
        refine Q_then ?_
        refine K_if rfl (fun h45 => ?_) (fun h45 => ?_)
        ·
          refine K_region ?_
          refine KV (R_move rfl) rfl ?_
          refine K_store ty25 1 rfl rfl rfl rfl rfl rfl ?_
          refine K_nil ?_
          refine Q_fall ?_
          refine results_sel [1, 1] rfl (rs := []) (vs := []) rfl trivial ?_
          refine ⟨_, _, rfl, _, mz, rfl, rfl, hmzl, fun i h h2 h3 => (hmz i h h2 h3).mono (hU.trans hv2), ?_⟩
          rw [if_pos hto, ho]
          obtain ⟨aa, rfl⟩ := hRun.some_of (by simp)
          exact .inr ⟨_, aa, k37, by simp only [bestO]; rw [if_pos h45], by rw [List.length_append]; rfl, hRun.mono hv2, by rw [List.length_append]; simp; omega⟩
        ·
          refine K_skip ?_
          refine Q_fall ?_
          refine results_sel [1, 1] rfl (rs := []) (vs := []) rfl trivial ?_
          refine ⟨_, _, rfl, _, mz, rfl, rfl, hmzl, fun i h h2 h3 => (hmz i h h2 h3).mono (hU.trans hv2), ?_⟩
          rw [if_pos hto, ho]
          exact .inr ⟨x, ba, bc, by simp only [bestO]; rw [if_neg h45], rfl, hSx.mono (hV.trans (hU.trans hv2)), hxl2⟩
end Go.Proofs.X

namespace Go.Proofs.X
open Go Pal Go.Proofs
attribute [local irreducible] Pal.KO Pal.KC Pal.KQ Pal.KD
theorem ty2036 : Ty Tryz.prog T2036 false 1 := .of (by kernel_rfl)
theorem fd2038_3 : fldOk Tryz.prog T2038 3 3 = true := by kernel_rfl
theorem z25 : zeroOk Tryz.prog T25 (.slice none 0 0) := .of (by kernel_rfl)
theorem c2070 : callable Tryz.prog F2070 = true := by kernel_rfl
theorem mt2036 : Tryz.prog.underlying T2036 = some (.map T3 T25) := by kernel_rfl
theorem least_spec (rs : List Rl) (hrl : rs.length ≤ 65536) : ∀ m t H bv nd md q, t.size ≤ m → m ≤ 1048576 → RepNd T2038 H rs t nd → MdOk H rs t nd md → BookAt H bv rs → Tr.fits rs t → 0 < t.cnt rs q → i64ok q → SatO Tryz.prog F2043 #[bv, ptr nd.b, .int .i64 q] H [many md.maps] (fun v H' p => ∃ md' y, p = [many md'.maps] ∧ MdOk H' rs t nd md' ∧ Tr.least rs t q = some y ∧ SI H' v y) := by
  intro m
  induction m with
  | zero => intro t H bv nd md q h; have := t.size_pos; omega
  | succ m ih =>
  intro t H bv nd md q hm hb hr hmd hbk hfit hpos hq
  cases hr with | mk s ts b lm rb ns a cap kvs hbb hl hc hrr hrq hch =>
  cases hmd with | mk _ _ _ _ _ kv ms hl1 hl2 hk hmch =>
  have hsz : (Tr.node s ts).size = 1 + Tr.sizes ts := rfl
  have hln := Tr.length_le_sizes ts
  obtain ⟨hfit1, hfit2⟩ := hfit
  have hfitS : ∀ r ∈ symR rs s, r.args.length = ts.length := fun r hr => by
    have h := List.mem_filter.1 hr
    exact hfit1 r h.1 (of_decide_eq_true h.2)
  have hnA : At H b 0 [.slice a ts.length cap, .int .i64 s, mp rb, mp lm] := At.of hbb
  have hn3 := hnA.one (j := 3) rfl
  obtain ⟨kvf, hchA⟩ := chAt_of hl hc hch
  obtain ⟨bb, hbv⟩ : ∃ bb, bv = mp bb := by
    obtain ⟨bb, _, e, _⟩ := hbk
    exact ⟨bb, e⟩
  subst hbv
  rw [Md.maps]
  refine SatO.many_uncons ?_
  show SatO Tryz.prog F2043 #[mp bb, ptr b, .int .i64 q] H _ _
  refine enterO (n := 32) (args := [mp bb, ptr b, .int .i64 q]) Tryz.func62 rfl rfl rfl fun w0 => ?_
  refine K_seq ?_
  refine K_region ?_
  refine KA (A_box rfl) rfl fun b3 => ?_
  refine KA (A_box rfl) rfl fun b4 => ?_
  refine KA (A_box rfl) rfl fun b5 => ?_
  refine KV (R_assign rfl) rfl ?_
  refine K_nil ?_
  refine Q_then ?_
  refine K_seq ?_
  refine K_seq ?_
  rcases hlk : lookI kv q with _ | lv
  ·
    refine K_regionD (fin := false) (R := [0, 1, 2, 3, 4, 5, 6, 7, 8, 9, 10]) (by kernel_rfl) mixed (.cons_cons _ (.cons_cons _ (.cons_cons _ (.cons_cons _ (.cons_cons _ (List.nil_sublist _)))))) ?_
    refine D_val rfl rfl rfl (R_loadO ty2029 1 rfl rfl rfl rfl (fun _ => rfl) rfl) ?_
    refine D_val rfl rfl rfl (R_nilCheck rfl) ?_
    refine D_val rfl rfl rfl (R_fieldAddr 3 fd2038_3 rfl) ?_
    refine D_val rfl rfl rfl (R_loadH ty2036 rfl (hn3) rfl (fun _ => rfl) rfl) ?_
    refine D_val rfl rfl rfl (R_loadO ty3 0 rfl rfl rfl rfl (fun _ => rfl) rfl) ?_
    refine D_val rfl rfl rfl (R_lookT mt2036 (by kernel_rfl) z25 rfl rfl (MapAt.at 3 rfl) (v := .tuple #[nilS, .bool false]) (by rw [hlk]; rfl)) ?_
    refine D_val rfl rfl rfl (R_move rfl) ?_
    refine D_val rfl rfl rfl (R_extract rfl rfl) ?_
    refine D_val rfl rfl rfl (R_extract rfl rfl) ?_
    refine D_val rfl rfl rfl (R_assign rfl) ?_
    refine D_val rfl rfl rfl (R_assign rfl) ?_
    refine D_done ?_
    refine Q_then ?_
    refine K_seq ?_
    refine K_region ?_
    refine KV (R_move rfl) rfl ?_
    refine K_nil ?_
    refine Q_then ?_
    refine K_ifF rfl ?_
    refine K_skip ?_
    refine Q_then ?_
    refine K_seq ?_
    refine K_region ?_
    refine KA (A_alloc z25) rfl fun b9 => ?_
    refine K_nil ?_
    refine Q_then ?_
    refine K_seq ?_
    refine KC_front 1 rfl ?_
    refine KC_pubF fun U1 hU1 hb5 => ?_
    refine KC_front 1 rfl ?_
    refine KC_pubF fun U2 hU2 hb4 => ?_
    refine KC_front 1 rfl ?_
    refine KC_pubF fun U3 hU3 hb3 => ?_
    have h13 := hU1.trans (hU2.trans hU3)
    have hA3 : At U3 b3 0 [mp bb] := At.of hb3
    have hA4 : At U3 b4 0 [ptr b] := (At.of hb4).mono hU3
    have hA5 : At U3 b5 0 [.int .i64 q] := (At.of hb5).mono (hU2.trans hU3)
    refine KC_sel [0, 1, 0] rfl ?_
    refine KC_many_cons ?_
    have hvis : ∀ V pre r va en, VLe U3 V → (∃ w ms', en = many (blk b9 (.cells #[w] T25 (0, 0)) :: Md.mapss ms') ∧ ms'.length = ts.length ∧ (∀ i (h : i < ts.length) (h2 : i < ns.length) (h3 : i < ms'.length), MdOk V rs ts[i] ns[i] ms'[i]) ∧ BestW V w (bestL rs ts q pre)) → (pre ++ [r]) <+: (symR rs s).filter (fun r => applB kvf r.args r.args.length) → RVok V (r, va) → SatO Tryz.prog F2070 ([] ++ [Value.agg (cellRV (r, va)).toArray] ++ [ptr b5, ptr b3, ptr b4, ptr b9]).toArray V [en] (fun _ V' p => ∃ en', p = [en'] ∧ ∃ w ms', en' = many (blk b9 (.cells #[w] T25 (0, 0)) :: Md.mapss ms') ∧ ms'.length = ts.length ∧ (∀ i (h : i < ts.length) (h2 : i < ns.length) (h3 : i < ms'.length), MdOk V' rs ts[i] ns[i] ms'[i]) ∧ BestW V' w (bestL rs ts q (pre ++ [r]))) := by
      rintro V pre r va en hV2 ⟨w, ms', rfl, hml', hmd', hbw⟩ hpre hrv
      have hin := List.mem_filter.1 (hpre.subset (show r ∈ pre ++ [r] by simp))
      have hlen := hfitS r hin.1
      have hHV := h13.trans hV2
      have hpos' : ∀ i, i < ts.length → 0 < cntF rs ts i (r.args.getD i 0) := fun i hi => ((hchA.runP hi).isSome _).1 (applB_at hin.2 (by omega))
      refine SatO.many_uncons ?_
      refine (SatO.joinPost (least1_spec rs ts ns ms' r va (mp bb) b5 b3 b4 b9 b q a cap _ _ _ w (bestL rs ts q pre) V hrv (hA5.mono hV2) (hA3.mono hV2) (hA4.mono hV2) (hnA.mono hHV) (fun i hi => ?_) hl hml' hmd' (fun i h h2 V2 md x hle hmd2 hc hx => ?_) hlen hpos' hq (by omega) hbw)).mono' ?_
      · obtain ⟨b0, o0, cb, _, _, _, _, hae, hA, _⟩ := hchA i hi
        obtain ⟨a', cap', e, h3⟩ := hc
        cases e
        rcases h3 with ⟨h3, _⟩ | ⟨b1, o1, e1, hA1⟩
        · omega
        · refine ⟨b1, o1, e1, by omega, (hA1.sub (p := i * 1) fun j v hj => ?_).mono hHV⟩
          have h2 : i < ns.length := by omega
          cases j with
          | zero => simp at hj; subst hj; simp [h2]
          | succ j => simp at hj
      · exact ih ts[i] V2 (mp bb) ns[i] md x (by have := sizes_ge h; omega) (by omega) ((hch i h h2).mono (hHV.trans hle)) hmd2 (hbk.mono (hHV.trans hle)) (Tr.fitss_get hfit2 i h) hc hx
      · rintro _ V' p ⟨e, r', rfl, w', ms2, rfl, rfl, h1, h2, h3⟩
        refine ⟨_, rfl, w', ms2, rfl, h1, h2, ?_⟩
        rw [bestL_snoc, leasts_to rs ts r.args hlen hpos']
        exact h3
    refine K_region ?_
    refine KV (R_loadH ty2031 rfl (hA3) rfl (fun _ => rfl) rfl) rfl ?_
    refine KV (R_loadH ty2029 rfl (hA4) rfl (fun _ => rfl) rfl) rfl ?_
    refine KV (R_makeFunc rfl rfl) rfl ?_
    refine K_callO (first := []) [_] _ (List.Perm.refl _) c2069 rfl rfl rfl (each_spec rs (mp bb) b ts.length s _ _ _ _ U3 (hbk.mono h13) (hnA.mono h13) (cntF rs ts) kvf (hchA.mono h13) hfitS (by omega) F2070 [ptr b5, ptr b3, ptr b4, ptr b9] c2070 (fun pre V en => ∃ w ms', en = many (blk b9 (.cells #[w] T25 (0, 0)) :: Md.mapss ms') ∧ ms'.length = ts.length ∧ (∀ i (h : i < ts.length) (h2 : i < ns.length) (h3 : i < ms'.length), MdOk V rs ts[i] ns[i] ms'[i]) ∧ BestW V w (bestL rs ts q pre)) hvis _ ⟨nilS, ms, rfl, hl2, fun i h h2 h3 => (hmch i h h2 h3).mono h13, .inl ⟨rfl, rfl⟩⟩) ?_
    rintro _ V4 q24 hv4 ⟨en4, rfl, w4, ms4, rfl, hms4, hmd4, hbw4⟩
    dsimp only [List.cons_append, List.nil_append]
    refine KO_many_uncons ?_
    have hbest : BestW V4 w4 (Tr.least rs (.node s ts) q) := by rw [← node_least hchA hfitS q]; exact hbw4
    obtain ⟨y, hy⟩ := Option.isSome_iff_exists.1 (least_some.2 hpos)
    rw [hy] at hbest
    rcases hbest with ⟨h, _⟩ | ⟨y2, ya, yc, h, rfl, hSy, _⟩
    · cases h
    cases h
    refine K_nil ?_
    refine Q_then ?_
    refine K_seq ?_
    refine K_regionD (fin := true) (R := [0, 1, 2, 3, 4, 5, 6]) (by kernel_rfl) mixed (.cons_cons _ (.cons_cons _ (.cons_cons _ (List.nil_sublist _)))) ?_
    refine D_val rfl rfl rfl (R_loadH ty2029 rfl (hA4.mono hv4) rfl (fun _ => rfl) rfl) ?_
    refine D_val rfl rfl rfl (R_nilCheck rfl) ?_
    refine D_val rfl rfl rfl (R_fieldAddr 3 fd2038_3 rfl) ?_
    refine D_val rfl rfl rfl (R_loadH ty2036 rfl (hn3.mono (h13.trans hv4)) rfl (fun _ => rfl) rfl) ?_
    refine D_val rfl rfl rfl (R_loadH ty3 rfl (hA5.mono hv4) rfl (fun _ => rfl) rfl) ?_
    refine D_val rfl rfl rfl (R_loadO ty25 0 rfl rfl rfl rfl (fun _ => rfl) rfl) ?_
    refine D_lastSet mt2036 (by kernel_rfl) 2 rfl rfl rfl rfl rfl rfl ?_
    refine Q_then ?_
    refine K_seq ?_
    refine K_region ?_
    refine KV (R_loadO ty25 0 rfl rfl rfl rfl (fun _ => rfl) rfl) rfl ?_
    refine KV (R_assign rfl) rfl ?_
    refine K_nil ?_
    refine KQ_sel [2, 1] rfl ?_
    refine KQ_many_cons ?_
    refine Q_then ?_
    refine K_ret ?_
    refine results_sel [0] rfl (rs := [.tmp 6]) (vs := [_]) rfl ⟨rfl, trivial⟩ ?_
    refine ⟨.mk lm (setI kv q (.slice (some ya) y.length yc)) ms4, y, rfl, .mk s ts b lm ns _ ms4 hl hms4 (hk.set (h13.trans hv4) hy hSy) hmd4, hy, hSy⟩
  ·
    refine K_regionD (fin := false) (R := [0, 1, 2, 3, 4, 5, 6, 7, 8, 9, 10]) (by kernel_rfl) mixed (.cons_cons _ (.cons_cons _ (.cons_cons _ (.cons_cons _ (.cons_cons _ (List.nil_sublist _)))))) ?_
    refine D_val rfl rfl rfl (R_loadO ty2029 1 rfl rfl rfl rfl (fun _ => rfl) rfl) ?_
    refine D_val rfl rfl rfl (R_nilCheck rfl) ?_
    refine D_val rfl rfl rfl (R_fieldAddr 3 fd2038_3 rfl) ?_
    refine D_val rfl rfl rfl (R_loadH ty2036 rfl (hn3) rfl (fun _ => rfl) rfl) ?_
    refine D_val rfl rfl rfl (R_loadO ty3 0 rfl rfl rfl rfl (fun _ => rfl) rfl) ?_
    refine D_val rfl rfl rfl (R_lookT mt2036 (by kernel_rfl) z25 rfl rfl (MapAt.at 3 rfl) (v := .tuple #[lv, .bool true]) (by rw [hlk]; rfl)) ?_
    refine D_val rfl rfl rfl (R_move rfl) ?_
    refine D_val rfl rfl rfl (R_extract rfl rfl) ?_
    refine D_val rfl rfl rfl (R_extract rfl rfl) ?_
    refine D_val rfl rfl rfl (R_assign rfl) ?_
    refine D_val rfl rfl rfl (R_assign rfl) ?_
    refine D_done ?_
    refine Q_then ?_
    refine K_seq ?_
    refine K_region ?_
    refine KV (R_move rfl) rfl ?_
    refine K_nil ?_
    refine Q_then ?_
    refine K_ifT rfl ?_
    refine K_seq ?_
    refine K_region ?_
    refine KV (R_move rfl) rfl ?_
    refine KV (R_assign rfl) rfl ?_
    refine K_nil ?_
    refine KQ_sel [3, 3] rfl ?_
    refine KQ_many_cons ?_
    refine Q_then ?_
    refine K_ret ?_
    refine Q_then_ret ?_
    refine results_sel [0] rfl (rs := [.tmp 6]) (vs := [_]) rfl ⟨rfl, trivial⟩ ?_
    obtain ⟨y, hy, hSy⟩ := hk.2 q lv hlk
    exact ⟨.mk lm kv ms, y, rfl, .mk s ts b lm ns kv ms hl hl2 hk hmch, hy, hSy⟩
end Go.Proofs.X

namespace Go.Proofs.X
open Go Pal Go.Proofs
attribute [local irreducible] Pal.KO Pal.KC Pal.KQ Pal.KD

theorem leastrun_spec (a : Au) (vr vu vf : Value) (t : Tr) (cs : List Value) (H : View) (ha : RepAu H a vr vu vf) (hrk : a.ranks.length ≤ 1048576) (hr : RepT H t cs) (hb : t.size ≤ 1048576) : Sat Tryz.prog F2015 #[.agg #[vr, .int .i64 a.states, vu, vf], .agg cs.toArray] H (fun r H' => ∃ v is, r = .tuple #[v, .bool is, .int .i64 (askErr a t)] ∧ (askErr a t ≠ 0 → v = nilS ∧ is = false) ∧ (askErr a t = 0 → BestW H' v (bestF (sortO a.rules) t a.final) ∧ is = (bestF (sortO a.rules) t a.final).isSome)) := by
  have hab := ha.b
  obtain ⟨ra, rcp, rfl⟩ := ha.r.shape
  obtain ⟨fa, fcp, rfl⟩ := ha.f.shape
  obtain ⟨ua, ucp, rfl⟩ := ha.ushape
  have hrl := ha.rl
  have hul := ha.ul
  have hfl := ha.fl
  obtain ⟨x0, x1, x2, x3, rfl⟩ := hr.shape
  refine enterO (n := 61) (args := [.agg #[.slice ra a.ranks.length rcp, .int .i64 a.states, .slice ua a.rules.length ucp, .slice fa a.final.length fcp], .agg #[.int .i64 x0, .slice x1 x2 x3]]) Tryz.func24 rfl rfl rfl fun w0 => ?_
  refine K_seq ?_
  refine K_region ?_
  refine KA (A_box rfl) rfl fun b2 => ?_
  refine KA (A_box rfl) rfl fun b3 => ?_
  refine KV (R_assign rfl) rfl ?_
  refine KV (R_assign rfl) rfl ?_
  refine KV (R_assign rfl) rfl ?_
  refine K_nil ?_
  refine Q_then ?_
  refine K_seq ?_
  refine K_region ?_
  refine KV (R_loadW ty50 1 rfl rfl rfl rfl) rfl ?_
  refine KV (R_loadW ty30 0 rfl rfl rfl rfl) rfl ?_
  refine K_callO (first := []) [] _ (List.Perm.refl _) c2038 rfl rfl rfl (asked_spec a _ _ _ t _ H ha hrk hr hb) ?_
  rintro r14 V1 q14 hv1 ⟨hA1, hA2⟩
  by_cases hask : askErr a t ≠ 0
  ·
    obtain ⟨rfl, rfl⟩ := hA1 hask
    dsimp only [List.nil_append]
    refine KV (R_move rfl) rfl ?_
    refine KV (R_extract rfl rfl) rfl ?_
    refine KV (R_extract rfl rfl) rfl ?_
    refine KV (R_extract rfl rfl) rfl ?_
    refine KV (R_assign rfl) rfl ?_
    refine KV (R_assign rfl) rfl ?_
    refine KV (R_assign rfl) rfl ?_
    refine K_nil ?_
    refine Q_then ?_
    refine K_seq ?_
    refine K_seq ?_
    refine K_region ?_
    refine KV (R_move rfl) rfl ?_
    refine KV (R_cmp rfl rfl rfl) rfl ?_
    refine K_nil ?_
    refine Q_then ?_
    refine K_if rfl (fun h24 => ?_) (fun h24 => ?_)
    ·
      refine K_seq ?_
      refine K_region ?_
      refine KV (R_move rfl) rfl ?_
      refine KV (R_assign rfl) rfl ?_
      refine KV (R_assign rfl) rfl ?_
      refine KV (R_assign rfl) rfl ?_
      refine K_nil ?_
      refine Q_then ?_
      refine K_ret ?_
      refine Q_then_ret ?_
      refine results_sel [] rfl (rs := [.tmp 4, .tmp 5, .tmp 6]) (vs := [_, _, _]) rfl ⟨rfl, ⟨rfl, ⟨rfl, trivial⟩⟩⟩ ?_
      exact ⟨nilS, false, rfl, fun _ => ⟨rfl, rfl⟩, fun h => absurd h hask⟩
    ·
      exact (h24 hask).elim
  ·
    have hask0 : askErr a t = 0 := Decidable.not_not.1 hask
    obtain ⟨nd, bv, rfl, hnd, hbk, rfl⟩ := hA2 hask0
    dsimp only [List.cons_append, List.nil_append]
    obtain ⟨hok, hsz, hnodes⟩ := askErr_zero hask0
    have hsl := sortO_len a.rules
    have hul2 := hok.ul
    refine KV (R_move rfl) rfl ?_
    refine KV (R_extract rfl rfl) rfl ?_
    refine KV (R_extract rfl rfl) rfl ?_
    refine KV (R_extract rfl rfl) rfl ?_
    refine KV (R_assign rfl) rfl ?_
    refine KV (R_assign rfl) rfl ?_
    refine KV (R_assign rfl) rfl ?_
    refine K_nil ?_
    refine Q_then ?_
    refine K_seq ?_
    refine K_seq ?_
    refine K_region ?_
    refine KV (R_move rfl) rfl ?_
    refine KV (R_cmp rfl rfl rfl) rfl ?_
    refine K_nil ?_
    refine Q_then ?_
    refine K_if rfl (fun h24 => ?_) (fun h24 => ?_)
    ·
      exact (h24 rfl).elim
    ·
      refine K_skip ?_
      refine Q_then ?_
      refine K_seq ?_
      refine K_region ?_
      refine KV (R_assign rfl) rfl ?_
      refine K_nil ?_
      refine Q_then ?_
      refine K_seq ?_
      refine K_seq ?_
      obtain ⟨lv, sv, rb, kvs, hnA, hrb, hrp⟩ := hnd.head
      have hn2 := hnA.one (j := 2) rfl
      have hfits := Tr.fits_of hok (rs := sortO a.rules) (fun r h => sortO_mem.1 h) t hnodes
      rw [Nd.maps_md]
      refine K_region ?_
      refine KV (R_fieldAddr 3 fd50_3 rfl) rfl ?_
      refine KV (R_loadO ty25 2 rfl rfl rfl rfl (fun _ => rfl) rfl) rfl ?_
      refine KV (R_len sl25 rfl) rfl ?_
      refine KV (R_move rfl) rfl ?_
      refine K_nil ?_
      refine Q_then ?_
      refine K_block ?_
      refine K_loopD (G := Nat × View × Value × Md) [10, 12, 13, 14, 15, 29, 30, 31, 32, 33, 34, 35, 36, 37, 38, 39, 40, 41, 42, 43, 44, 45, 46, 47, 48, 49, 50, 51, 52, 53, 54, 55, 56, 57] (fun g => [(29, .int .i64 (g.1 : Int)), (10, g.2.2.1)]) (fun hl g => (hl.set 0 (many g.2.2.2.maps))) (fun g => g.2.1) (fun g => (g.1 ≤ a.final.length) ∧ (VLe V1 g.2.1) ∧ (MdOk g.2.1 (sortO a.rules) t nd g.2.2.2) ∧ (BestW g.2.1 g.2.2.1 (bestF (sortO a.rules) t (a.final.take g.1)))) (fun g => a.final.length - g.1) (0, V1, nilS, nd.md) ⟨Nat.zero_le _, VLe.refl _, hnd.mdOk, .inl ⟨rfl, rfl⟩⟩ ⟨rfl, rfl, trivial⟩ (by simp only [args0, Nat.reduceAdd, del, memN, beqN, Nat.reduceBEq, cond_true, cond_false]; rfl) rfl rfl ?_
      rintro ⟨k, V, w, md⟩ ⟨hk, hV, hmd, hw⟩
      dsimp only at hk hV hmd hw
      dsimp only [List.set, List.cons_append, List.nil_append]
      refine K_seq ?_
      refine K_region ?_
      refine KV (R_cmp rfl rfl rfl) rfl ?_
      refine K_nil ?_
      refine Q_then ?_
      refine K_seq ?_
      refine K_if rfl (fun h30 => ?_) (fun h30 => ?_)
      ·
        have hk' : k < a.final.length := by omega
        obtain ⟨tb, to_, hte, hta⟩ := (ha.mono (hv1.trans hV)).f.get hk'
        cases hte
        obtain ⟨za, zk, zc, hzv, _⟩ := (hrp.mono hV).val a.final[k]
        refine K_skip ?_
        refine Q_then ?_
        refine K_seq ?_
        refine K_block ?_
        refine K_seq ?_
        refine K_region ?_
        refine KV (R_indexN sl25 ty3 rfl rfl (by omega)) rfl ?_
        refine KV (R_loadH ty3 rfl (hta) rfl (fun _ => rfl) rfl) rfl ?_
        refine KV (R_assign rfl) rfl ?_
        refine K_nil ?_
        refine Q_then ?_
        refine K_seq ?_
        refine K_seq ?_
        refine K_region ?_
        refine KV (R_move rfl) rfl ?_
        refine KV (R_nilCheck rfl) rfl ?_
        refine KV (R_fieldAddr 2 fd2038_2 rfl) rfl ?_
        refine KV (R_loadH ty2035 rfl (hn2.mono hV) rfl (fun _ => rfl) rfl) rfl ?_
        refine KV (R_move rfl) rfl ?_
        refine KV (R_lookT mt2035 (by kernel_rfl) z2009 rfl rfl (.inl (hV _ _ hrb)) (v := .tuple #[.agg #[.slice za zk zc], .bool (lookI kvs a.final[k]).isSome]) (by rw [show Value.agg #[Value.slice none 0 0] = natZ from rfl, hzv])) rfl ?_
        refine KV (R_move rfl) rfl ?_
        refine KV (R_extract rfl rfl) rfl ?_
        refine KV (R_extract rfl rfl) rfl ?_
        refine KA (A_alloc z2009) rfl fun b13 => ?_
        refine K_storeW ty2009 0 rfl rfl rfl rfl rfl rfl rfl ?_
        refine KV (R_assign rfl) rfl ?_
        refine K_nil ?_
        refine Q_then ?_
        refine K_seq ?_
        refine K_region ?_
        refine KV (R_move rfl) rfl ?_
        refine KV (R_not rfl) rfl ?_
        refine K_nil ?_
        refine Q_then ?_
        refine K_ifB rfl (fun h43 => ?_) (fun h43 => ?_)
        ·
          have hnone : Tr.least (sortO a.rules) t a.final[k] = none := by
            cases hl : Tr.least (sortO a.rules) t a.final[k] with
            | none => rfl
            | some x => have h1 := least_some.1 (by rw [hl]; rfl : (Tr.least (sortO a.rules) t a.final[k]).isSome = true); have h2 := (hrp.isSome a.final[k]).2 h1; rw [h2] at h43; cases h43
          refine K_exit ?_
          refine Q_then_exit ?_
          refine Q_block_exit ?_
          refine Q_then ?_
          refine K_region ?_
          refine KV (R_add rfl rfl (by omega)) rfl ?_
          refine KV (R_move rfl) rfl ?_
          refine K_nil ?_
          refine KQ_sel [1, 1, 1] rfl ?_
          refine Q_nextD (k + 1, V, w, md) ⟨hk', hV, hmd, by rw [bestF_snoc hk', hnone]; exact hw⟩ (by (try dsimp only); omega) ⟨rfl, rfl, trivial⟩ rfl rfl rfl
        ·
          have hcp : 0 < t.cnt (sortO a.rules) a.final[k] := (hrp.isSome a.final[k]).1 (by simpa using h43)
          refine K_skip ?_
          refine Q_then ?_
          refine K_seq ?_
          refine K_region ?_
          refine KV (R_move rfl) rfl ?_
          refine KV (R_move rfl) rfl ?_
          refine KV (R_move rfl) rfl ?_
          refine KO_sel [1, 0, 0, 0] rfl ?_
          refine K_callO (first := []) [_] _ (List.Perm.refl _) c2043 rfl rfl rfl (least_spec (sortO a.rules) (by omega) t.size t V bv nd md a.final[k] (Nat.le_refl _) (by omega) (hnd.mono hV) hmd (hbk.mono hV) hfits hcp (hab.f _ (List.getElem_mem hk'))) ?_
          rintro _ V2 q47 hv2 ⟨md2, y, rfl, hmd2, hly, hSy⟩
          dsimp only [List.cons_append, List.nil_append]
          have hyl := least_len hly
          have hyp := t.size_pos
          obtain ⟨ya0, yc, rfl⟩ := hSy.shape
          obtain ⟨ya, rfl⟩ := hSy.some_of (fun e => by rw [e] at hyl; simp at hyl; omega)
          refine KV (R_assign rfl) rfl ?_
          refine K_nil ?_
          refine Q_then ?_
          refine K_seq ?_
          rcases hw with ⟨ho, hw0⟩ | ⟨x, ba, bc, ho, hw0, hSx, hxl⟩
          ·
            subst hw0
            refine K_region ?_
            refine KV (R_move rfl) rfl ?_
            refine KV (R_sliceNil sl25 rfl rfl) rfl ?_
            refine KV (R_move rfl) rfl ?_
            refine K_gno rfl rfl rfl rfl ?_
            refine K_gno rfl rfl rfl rfl ?_
            refine K_gno rfl rfl rfl rfl ?_
            refine K_gno rfl rfl rfl rfl ?_
            refine KV (R_pickT rfl rfl) rfl ?_
            refine K_nil ?_
            refine Q_then ?_
            refine K_ifT rfl ?_
            refine K_region ?_
            refine KV (R_move rfl) rfl ?_
            refine KV (R_assign rfl) rfl ?_
            refine K_nil ?_
            refine Q_block ?_
            refine Q_then ?_
            refine K_region ?_
            refine KV (R_add rfl rfl (by omega)) rfl ?_
            refine KV (R_move rfl) rfl ?_
            refine K_nil ?_
            refine KQ_sel [0, 1, 1] rfl ?_
            refine Q_nextD (k + 1, V2, .slice (some ya) y.length yc, md2) ⟨hk', hV.trans hv2, hmd2, by rw [bestF_snoc hk', hly, ho]; exact .inr ⟨y, ya, yc, rfl, rfl, hSy, by omega⟩⟩ (by (try dsimp only); omega) ⟨rfl, rfl, trivial⟩ rfl rfl rfl
          ·
            subst hw0
            refine K_region ?_
            refine KV (R_move rfl) rfl ?_
            refine KV (R_sliceNil sl25 rfl rfl) rfl ?_
            refine KV (R_move rfl) rfl ?_
            refine K_gyes rfl rfl ?_
            refine KV (R_move rfl) rfl ?_
            refine K_gyes rfl rfl ?_
            refine KV (R_move rfl) rfl ?_
            refine K_gyes rfl rfl ?_
            refine K_call c2044 rfl rfl (compareI_spec y x _ _ V2 hSy (hSx.mono hv2) (by omega) (by omega)) ?_
            rintro _ V3 hv3 rfl
            refine K_gyes rfl rfl ?_
            refine KV (R_cmp rfl rfl rfl) rfl ?_
            refine KV (R_pickF rfl rfl) rfl ?_
            refine K_nil ?_
            refine Q_then ?_
            refine K_if rfl (fun h55 => ?_) (fun h55 => ?_)
            ·
              refine K_region ?_
              refine KV (R_move rfl) rfl ?_
              refine KV (R_assign rfl) rfl ?_
              refine K_nil ?_
              refine Q_block ?_
              refine Q_then ?_
              refine K_region ?_
              refine KV (R_add rfl rfl (by omega)) rfl ?_
              refine KV (R_move rfl) rfl ?_
              refine K_nil ?_
              refine KQ_sel [0, 1, 1] rfl ?_
              refine Q_nextD (k + 1, V3, .slice (some ya) y.length yc, md2) ⟨hk', hV.trans (hv2.trans hv3), hmd2.mono hv3, by rw [bestF_snoc hk', hly, ho]; simp only [bestO]; rw [if_pos h55]; exact .inr ⟨y, ya, yc, rfl, rfl, hSy.mono hv3, by omega⟩⟩ (by (try dsimp only); omega) ⟨rfl, rfl, trivial⟩ rfl rfl rfl
            ·
              refine K_skip ?_
              refine Q_block ?_
              refine Q_then ?_
              refine K_region ?_
              refine KV (R_add rfl rfl (by omega)) rfl ?_
              refine KV (R_move rfl) rfl ?_
              refine K_nil ?_
              refine KQ_sel [0, 1, 1] rfl ?_
              refine Q_nextD (k + 1, V3, .slice (some ba) x.length bc, md2) ⟨hk', hV.trans (hv2.trans hv3), hmd2.mono hv3, by rw [bestF_snoc hk', hly, ho]; simp only [bestO]; rw [if_neg h55]; exact .inr ⟨x, ba, bc, rfl, rfl, hSx.mono (hv2.trans hv3), hxl⟩⟩ (by (try dsimp only); omega) ⟨rfl, rfl, trivial⟩ rfl rfl rfl
      ·
        have hk' : k = a.final.length := by omega
        rw [hk', List.take_length] at hw
        obtain ⟨wa0, wl0, wc0, hwe, hwi⟩ : ∃ wa wl wc, w = .slice wa wl wc ∧ wa.isSome = (bestF (sortO a.rules) t a.final).isSome := by
          rcases hw with ⟨ho, hw0⟩ | ⟨x, ba, bc, ho, hw0, _⟩
          · exact ⟨none, 0, 0, hw0, by rw [ho]; rfl⟩
          · exact ⟨some ba, _, bc, hw0, by rw [ho]; rfl⟩
        subst hwe
        refine K_exit ?_
        refine Q_then_exit ?_
        refine Q_then_exit ?_
        refine Q_block_exit ?_
        refine Q_then ?_
        refine K_seq ?_
        refine K_region ?_
        refine KV (R_move rfl) rfl ?_
        refine KV (R_move rfl) rfl ?_
        refine KV (R_sliceNotNil sl25 rfl rfl) rfl ?_
        refine KV (R_assign rfl) rfl ?_
        refine KV (R_assign rfl) rfl ?_
        refine KV (R_assign rfl) rfl ?_
        refine K_nil ?_
        refine Q_then ?_
        refine K_ret ?_
        refine results_sel [] rfl (rs := [.tmp 4, .tmp 5, .tmp 6]) (vs := [_, _, _]) rfl ⟨rfl, ⟨rfl, ⟨rfl, trivial⟩⟩⟩ ?_
        exact ⟨_, _, by rw [hask0]; rfl, fun h => absurd hask0 h, fun _ => ⟨hw, hwi⟩⟩
end Go.Proofs.X

namespace Go.Proofs.X
open Go Pal Go.Proofs
attribute [local irreducible] Pal.KO Pal.KC Pal.KQ Pal.KD
theorem c2012 : callable Tryz.prog F2012 = true := by kernel_rfl
theorem c2015 : callable Tryz.prog F2015 = true := by kernel_rfl
theorem c2016 : callable Tryz.prog F2016 = true := by kernel_rfl
theorem c2018 : callable Tryz.prog F2018 = true := by kernel_rfl
theorem known32_spec (H : View) : Sat Tryz.prog F2009 #[] H (fun v _ => v = .bool true) := by
  refine enterO (n := 63) (args := []) Tryz.func12 rfl rfl rfl fun w0 => ?_
  refine K_seq ?_
  refine K_region ?_
  refine KV (R_assign rfl) rfl ?_
  refine K_nil ?_
  refine Q_then ?_
  refine K_seq ?_
  refine K_region ?_
  refine KA (A_buildSlice (vs := [.int .i64 0, .int .i64 2]) sl47 ty3 z3 rfl rfl (by simp [Value.cells]) (by simp) rfl (by decide)) rfl fun b8 => ?_
  refine KV (R_build z85 pl85 rfl rfl) rfl ?_
  refine KV (R_build z85 pl85 rfl rfl) rfl ?_
  refine KA (A_buildSlice (vs := [.int .i64 0, .int .i64 1]) sl25 ty3 z3 rfl rfl (by simp [Value.cells]) (by simp) rfl (by decide)) rfl fun b11 => ?_
  refine KV (R_build z85 pl85 rfl rfl) rfl ?_
  refine KA (A_buildSlice (vs := [.agg #[.int .i64 0, .slice none 0 0, .int .i64 0], .agg #[.int .i64 0, .slice none 0 0, .int .i64 1], .agg #[.int .i64 1, slc 2 b11, .int .i64 1]]) sl48 ty85 z85 rfl rfl (by simp [Value.cells]) (by simp) rfl (by decide)) rfl fun b13 => ?_
  refine KA (A_buildSlice (vs := [.int .i64 1]) sl25 ty3 z3 rfl rfl (by simp [Value.cells]) (by simp) rfl (by decide)) rfl fun b14 => ?_
  refine KV (R_build z50 pl50 rfl rfl) rfl ?_
  refine KA (A_alloc z50) rfl fun b1 => ?_
  refine K_storeW ty50 0 rfl rfl rfl rfl rfl rfl rfl ?_
  refine K_nil ?_
  refine KQ_front 1 rfl ?_
  refine KQ_pubnew (by simp [feet]) fun V1 hv1 hb14 => ?_
  refine KQ_front 1 rfl ?_
  refine KQ_pubnew (by simp [feet]) fun V2 hv2 hb13 => ?_
  refine KQ_front 1 rfl ?_
  refine KQ_pubnew (by simp [feet]) fun V3 hv3 hb11 => ?_
  refine KQ_front 1 rfl ?_
  refine KQ_pubnew (by simp [feet]) fun V4 hv4 hb8 => ?_
  have hi : ∀ x : Int, x = 0 ∨ x = 1 ∨ x = 2 → i64ok x := by intro x hx; simp only [i64ok]; omega
  have hsn : ∀ V, SI V (.slice none 0 0) [] := fun V => ⟨⟨none, 0, rfl, .inl ⟨rfl, rfl⟩⟩, by simp⟩
  have hs9 : SI V4 (slc 2 b11) [0, 1] := ⟨⟨_, _, rfl, .inr ⟨b11, 0, rfl, (At.of hb11).mono hv4⟩⟩, fun x hx => hi x (by simp at hx; omega)⟩
  have hrep : RepAu V4 knownA (slc 2 b8) (slc 3 b13) (slc 1 b14) := by
    refine ⟨⟨⟨_, _, rfl, .inr ⟨b8, 0, rfl, At.of hb8⟩⟩, fun x hx => hi x (by simp [knownA] at hx; omega)⟩, ⟨_, ⟨_, _, rfl, .inr ⟨b13, 0, rfl, (At.of hb13).mono (hv3.trans hv4)⟩⟩, ?_⟩, ⟨⟨_, _, rfl, .inr ⟨b14, 0, rfl, (At.of hb14).mono (hv2.trans (hv3.trans hv4))⟩⟩, fun x hx => hi x (by simp [knownA] at hx; omega)⟩, hi 2 (by simp), by decide, by decide, by decide⟩
    have r1 : RepR V4 ⟨0, [], 0⟩ [.int .i64 0, .slice none 0 0, .int .i64 0] := ⟨none, 0, rfl, hsn _, hi 0 (by simp), hi 0 (by simp), by decide⟩
    have r2 : RepR V4 ⟨0, [], 1⟩ [.int .i64 0, .slice none 0 0, .int .i64 1] := ⟨none, 0, rfl, hsn _, hi 0 (by simp), hi 1 (by simp), by decide⟩
    have r3 : RepR V4 ⟨1, [0, 1], 1⟩ [.int .i64 1, slc 2 b11, .int .i64 1] := ⟨_, _, rfl, hs9, hi 1 (by simp), hi 1 (by simp), by decide⟩
    exact ((RepL.one r1 rfl).snoc r2 rfl).snoc r3 rfl
  have hkr : knownA.ranks.length ≤ 1048576 := by decide
  refine Q_then ?_
  refine K_seq ?_
  refine K_region ?_
  refine KV (R_build z30 pl30 rfl rfl) rfl ?_
  refine KV (R_build z30 pl30 rfl rfl) rfl ?_
  refine KA (A_buildSlice (vs := [.agg #[.int .i64 0, .slice none 0 0], .agg #[.int .i64 0, .slice none 0 0]]) sl28 ty30 z30 rfl rfl (by simp [Value.cells]) (by simp) rfl (by decide)) rfl fun b18 => ?_
  refine KV (R_build z30 pl30 rfl rfl) rfl ?_
  refine KA (A_alloc z30) rfl fun b2 => ?_
  refine K_storeW ty30 0 rfl rfl rfl rfl rfl rfl rfl ?_
  refine K_nil ?_
  refine KQ_front 1 rfl ?_
  refine KQ_pubnew (by simp [feet]) fun V5 hv5 hb18 => ?_
  have hkt : RepT V5 kT [.int .i64 1, slc 2 b18] := repT_kT V5 b18 hb18 rfl
  have hks : kT.size ≤ 1048576 := by decide
  refine Q_then ?_
  refine K_seq ?_
  refine K_region ?_
  refine KV (R_loadW ty50 1 rfl rfl rfl rfl) rfl ?_
  refine KV (R_loadW ty30 0 rfl rfl rfl rfl) rfl ?_
  refine K_call c2015 rfl rfl (leastrun_spec knownA _ _ _ kT _ V5 (hrep.mono hv5) hkr hkt hks) ?_
  rintro _ V6 hv6 ⟨w, is, rfl, _, hL⟩
  obtain ⟨hB, rfl⟩ := hL kv_ask
  clear hL
  rw [kv_ask]
  rw [kv_best] at hB ⊢
  obtain ⟨x, wa, wc, hx, rfl, hwS, _⟩ : ∃ x wa wc, some [0, 1, 1] = some x ∧ w = .slice (some wa) x.length wc ∧ SI V6 w x ∧ x.length ≤ 1048577 := hB.resolve_left (fun h => by cases h.1)
  cases hx
  refine KV (R_move rfl) rfl ?_
  refine KV (R_extract rfl rfl) rfl ?_
  refine KV (R_extract rfl rfl) rfl ?_
  refine KV (R_extract rfl rfl) rfl ?_
  refine KV (R_assign rfl) rfl ?_
  refine KV (R_assign rfl) rfl ?_
  refine KV (R_assign rfl) rfl ?_
  refine K_nil ?_
  refine Q_then ?_
  refine K_seq ?_
  refine K_region ?_
  refine KV (R_loadW ty50 1 rfl rfl rfl rfl) rfl ?_
  refine KV (R_loadW ty30 0 rfl rfl rfl rfl) rfl ?_
  refine K_call c2016 rfl rfl (countruns_spec knownA _ _ _ kT _ V6 (hrep.mono (hv5.trans hv6)) hkr (hkt.mono hv6) hks) ?_
  rintro _ V7 hv7 ⟨n, rfl, _, hC⟩
  have hC := hC kv_ask
  rw [kv_ask]
  rw [kv_cnt] at hC
  obtain ⟨na, nk, nc, rfl, hN⟩ := hC
  refine KV (R_move rfl) rfl ?_
  refine KV (R_extract rfl rfl) rfl ?_
  refine KV (R_extract rfl rfl) rfl ?_
  refine KA (A_alloc z2009) rfl fun b6 => ?_
  refine K_storeW ty2009 0 rfl rfl rfl rfl rfl rfl rfl ?_
  refine KV (R_assign rfl) rfl ?_
  refine K_nil ?_
  refine Q_then ?_
  refine K_seq ?_
  refine K_regionD (fin := false) (R := [0, 1, 2, 3, 4, 5, 6, 7, 8, 9, 10, 11, 12, 13, 14, 15, 16, 17, 18, 19, 20, 21, 22, 23, 24, 25, 26, 27, 28, 29, 30]) (by kernel_rfl) mixed (.cons_cons _ (.cons_cons _ (.cons_cons _ (List.nil_sublist _)))) ?_
  refine D_val rfl rfl rfl (R_move rfl) ?_
  refine D_val rfl rfl rfl (R_move rfl) ?_
  refine D_splitB ?_ ?_
  ·
    intro h34
    refine D_val rfl rfl rfl (R_move rfl) ?_
    refine D_val rfl rfl rfl (R_cmp rfl rfl rfl) ?_
    refine D_val rfl rfl rfl (R_pickT rfl rfl) ?_
    refine D_val rfl rfl rfl (R_move rfl) ?_
    refine D_split ?_ ?_
    ·
      intro h38
      refine D_val rfl rfl rfl (R_move rfl) ?_
      refine D_val rfl rfl rfl (R_cmp rfl rfl rfl) ?_
      refine D_val rfl rfl rfl (R_pickT rfl rfl) ?_
      refine D_val rfl rfl rfl (R_move rfl) ?_
      refine D_split ?_ ?_
      ·
        intro h42
        refine D_val rfl rfl rfl (R_loadW ty2009 0 rfl rfl rfl rfl) ?_
        refine D_call rfl rfl c2019 rfl ⟨⟨0, rfl⟩, ⟨1, rfl⟩, ⟨2, rfl⟩, trivial⟩ (fromU_spec 1 (by decide) V7) ?_
        rintro _ V8 hv8 ⟨ma, mk, mc, rfl, hM⟩
        refine D_call rfl rfl c2018 rfl ⟨⟨0, rfl⟩, ⟨1, rfl⟩, ⟨2, rfl⟩, trivial⟩ (eqN_spec 1 1 _ _ V8 (hN.mono hv8) hM (by decide)) ?_
        rintro _ V9 hv9 rfl
        refine D_val rfl rfl rfl (R_pickT rfl rfl) ?_
        refine D_val rfl rfl rfl (R_move rfl) ?_
        refine D_split ?_ ?_
        ·
          intro h47
          refine D_val rfl rfl rfl (R_move rfl) ?_
          refine D_alloc rfl rfl rfl (A_buildSlice (vs := [.int .i64 0, .int .i64 1, .int .i64 1]) sl25 ty3 z3 rfl rfl (by simp [Value.cells]) (by simp) rfl (by decide)) fun b49 => ?_
          refine D_callO (first := []) [_] _ rfl rfl c60 rfl rfl (List.Perm.refl _) ⟨⟨0, rfl⟩, ⟨1, rfl⟩, ⟨2, rfl⟩, trivial⟩ (Sat.lend (blk b49 (.cells #[.int .i64 0, .int .i64 1, .int .i64 1] T3 (0, 0))) fun H2 hle hh => cmpl_spec [0, 1, 1] [0, 1, 1] _ _ H2 (hwS.mono (hv7.trans (hv8.trans (hv9.trans hle)))) ⟨⟨_, _, rfl, .inr ⟨b49, 0, rfl, At.of hh⟩⟩, fun x hx => hi x (by simp at hx; omega)⟩ (by decide) (by decide)) ?_
          rintro _ V10 q50 hv10 ⟨rfl, rfl, rfl⟩
          dsimp only [List.cons_append, List.nil_append]
          refine D_val rfl rfl rfl (R_cmp rfl rfl rfl) ?_
          refine D_val rfl rfl rfl (R_pickT rfl rfl) ?_
          refine D_val rfl rfl rfl (R_move rfl) ?_
          refine D_split ?_ ?_
          ·
            intro h53
            refine D_val rfl rfl rfl (R_loadW ty50 2 rfl rfl rfl rfl) ?_
            refine D_val rfl rfl rfl (R_loadW ty30 1 rfl rfl rfl rfl) ?_
            refine D_call rfl rfl c2012 rfl ⟨⟨1, rfl⟩, ⟨2, rfl⟩, ⟨3, rfl⟩, trivial⟩ (accepts_spec knownA _ _ _ kT _ V10 (hrep.mono (hv5.trans (hv6.trans (hv7.trans (hv8.trans hv9))))) hkr (hkt.mono (hv6.trans (hv7.trans (hv8.trans hv9)))) hks) ?_
            rintro _ V11 hv11 rfl
            rw [kv_acc]
            refine D_val rfl rfl rfl (R_pickT rfl rfl) ?_
            refine D_val rfl rfl rfl (R_move rfl) ?_
            refine D_splitB ?_ ?_
            ·
              intro h58
              refine D_val rfl rfl rfl (R_loadW ty50 2 rfl rfl rfl rfl) ?_
              refine D_val rfl rfl rfl (R_build z30 pl30 rfl rfl) ?_
              refine D_call rfl rfl c2012 rfl ⟨⟨1, rfl⟩, ⟨2, rfl⟩, ⟨3, rfl⟩, trivial⟩ (accepts_spec knownA _ _ _ kLeaf [.int .i64 0, .slice none 0 0] V11 (hrep.mono (hv5.trans (hv6.trans (hv7.trans (hv8.trans (hv9.trans hv11)))))) hkr (repT_leaf _ 0 (hi 0 (by simp))) (by decide)) ?_
              rintro _ V12 hv12 rfl
              rw [kv_leaf]
              refine D_val rfl rfl rfl (R_pickT rfl rfl) ?_
              refine D_val rfl rfl rfl (R_assign rfl) ?_
              refine D_done ?_
              refine Q_then ?_
              refine K_ret ?_
              refine results_gen (rs := [.tmp 0]) (vs := [_]) rfl ⟨rfl, trivial⟩ ?_
              rfl
            ·
              intro h58
              exact absurd h58 (by decide)
          ·
            intro h53
            exact absurd (by decide) h53
        ·
          intro h47
          exact absurd (by decide) h47
      ·
        intro h42
        exact absurd (by decide) h42
    ·
      intro h38
      exact absurd (by decide) h38
  ·
    intro h34
    exact absurd h34 (by decide)
end Go.Proofs.X

namespace Go.Proofs.X
open Go Pal Go.Proofs
attribute [local irreducible] Pal.KO Pal.KC Pal.KQ Pal.KD
theorem c15 : callable Tryz.prog F15 = true := by kernel_rfl
theorem c17 : callable Tryz.prog F17 = true := by kernel_rfl
theorem c2009 : callable Tryz.prog F2009 = true := by kernel_rfl
end Go.Proofs.X

namespace Go.Proofs.X
open Go Pal Go.Proofs
attribute [local irreducible] Pal.KO Pal.KC Pal.KQ Pal.KD
theorem z1 : zeroOk Tryz.prog T1 (.nilFunc) := .of (by kernel_rfl)
theorem z2 : zeroOk Tryz.prog T2 (.int .i64 0) := .of (by kernel_rfl)
end Go.Proofs.X

namespace Go.Proofs.X
open Go Pal Go.Proofs
attribute [local irreducible] Pal.KO Pal.KC Pal.KQ Pal.KD
theorem c51 : callable Tryz.prog F51 = true := by kernel_rfl
theorem c54 : callable Tryz.prog F54 = true := by kernel_rfl
theorem c2048 : callable Tryz.prog F2048 = true := by kernel_rfl
theorem c2049 : callable Tryz.prog F2049 = true := by kernel_rfl
theorem sortedS_spec (a : Au) (vr vu vf : Value) (H : View) (ha : RepAu H a vr vu vf) : Sat Tryz.prog F2045 #[.agg #[vr, .int .i64 a.states, vu, vf]] H (fun r H' => ∃ v1 v2 v3, r = .agg #[v1, .int .i64 a.states, v2, v3] ∧ RepAu H' (normA a) v1 v2 v3) :=
  (sortedP_spec a vr vu vf H ha).mono' fun _ _ _ h => h.2.1

theorem eqRules_spec (a b : Au) (v1 v2 v3 w1 w2 w3 : Value) (H : View) (ha : RepAu H a v1 v2 v3) (hb : RepAu H b w1 w2 w3) : Sat Tryz.prog F2048 #[v2, w2, .func (.func F2049) #[] #[]] H (fun r _ => r = .bool (decide (a.rules = b.rules))) := by
  obtain ⟨ua, uc, rfl⟩ := ha.ushape
  obtain ⟨wa, wc, rfl⟩ := hb.ushape
  have hul := ha.ul
  refine enterO (n := 32) (args := [.slice ua a.rules.length uc, .slice wa b.rules.length wc, .func (.func F2049) #[] #[]]) Tryz.func73 rfl rfl rfl fun w0 => ?_
  refine K_seq ?_
  refine K_region ?_
  refine KV (R_assign rfl) rfl ?_
  refine K_nil ?_
  refine Q_then ?_
  refine K_seq ?_
  refine K_seq ?_
  refine K_region ?_
  refine KV (R_move rfl) rfl ?_
  refine KV (R_len sl48 rfl) rfl ?_
  refine KV (R_move rfl) rfl ?_
  refine KV (R_len sl48 rfl) rfl ?_
  refine KV (R_cmp rfl rfl rfl) rfl ?_
  refine K_nil ?_
  refine Q_then ?_
  refine K_if rfl (fun h14 => ?_) (fun h14 => ?_)
  ·
    refine K_seq ?_
    refine K_region ?_
    refine KV (R_assign rfl) rfl ?_
    refine K_nil ?_
    refine Q_then ?_
    refine K_ret ?_
    refine Q_then_ret ?_
    refine results_gen (rs := [.tmp 6]) (vs := [_]) rfl ⟨rfl, trivial⟩ ?_
    refine congrArg Value.bool (Eq.symm ?_)
    simp only [decide_eq_false_iff_not]
    intro e; exact h14 (by rw [e])
  ·
    have hlen : a.rules.length = b.rules.length := by omega
    refine K_skip ?_
    refine Q_then ?_
    refine K_seq ?_
    refine K_seq ?_
    refine K_region ?_
    refine KV (R_move rfl) rfl ?_
    refine KV (R_len sl48 rfl) rfl ?_
    refine KV (R_move rfl) rfl ?_
    refine K_nil ?_
    refine Q_then ?_
    refine K_block ?_
    refine K_loopD (G := Nat × View) [6, 7, 8, 9, 17, 18, 19, 20, 21, 22, 23, 24, 25, 26, 27, 28, 29, 30, 31] (fun g => [(17, .int .i64 (g.1 : Int))]) (fun hl g => hl) (fun g => g.2) (fun g => (g.1 ≤ a.rules.length) ∧ (VLe H g.2) ∧ (∀ j (h : j < a.rules.length) (h2 : j < b.rules.length), j < g.1 → a.rules[j] = b.rules[j])) (fun g => a.rules.length - g.1) (0, H) ⟨Nat.zero_le _, VLe.refl _, fun j _ _ h => by simp at h⟩ ⟨rfl, trivial⟩ (by simp only [args0, Nat.reduceAdd, del, memN, beqN, Nat.reduceBEq, cond_true, cond_false]; rfl) rfl rfl ?_
    rintro ⟨k, V⟩ ⟨hk, hV, hyes⟩
    dsimp only at hk hV hyes
    dsimp only [List.set, List.cons_append, List.nil_append]
    refine K_seq ?_
    refine K_region ?_
    refine KV (R_cmp rfl rfl rfl) rfl ?_
    refine K_nil ?_
    refine Q_then ?_
    refine K_seq ?_
    refine K_if rfl (fun h18 => ?_) (fun h18 => ?_)
    ·
      have hk' : k < a.rules.length := by omega
      have hk2 : k < b.rules.length := by omega
      obtain ⟨xb, xo, xq, xx, xy, xe, xc, xs, xt, xw, xl⟩ := (ha.mono hV).rule hk'
      cases xe
      obtain ⟨yb, yo, yq, yx, yy, ye, yc, ys, yt, yw, yl⟩ := (hb.mono hV).rule hk2
      cases ye
      refine K_skip ?_
      refine Q_then ?_
      refine K_seq ?_
      refine K_block ?_
      refine K_seq ?_
      refine K_region ?_
      refine KV (R_move rfl) rfl ?_
      refine KV (R_indexN sl48 ty85 rfl rfl (by omega)) rfl ?_
      refine KV (R_loadH ty85 rfl (xc) rfl (fun e => by cases e) rfl) rfl ?_
      refine KA (A_alloc z85) rfl fun b8 => ?_
      refine KV (R_assign rfl) rfl ?_
      refine K_storeW ty85 0 rfl rfl rfl rfl rfl rfl rfl ?_
      refine K_nil ?_
      refine Q_then ?_
      refine K_seq ?_
      refine K_region ?_
      refine KV (R_move rfl) rfl ?_
      refine KV (R_move rfl) rfl ?_
      refine KV (R_indexN sl48 ty85 rfl rfl (by omega)) rfl ?_
      refine KV (R_loadH ty85 rfl (yc) rfl (fun e => by cases e) rfl) rfl ?_
      refine KA (A_alloc z85) rfl fun b9 => ?_
      refine K_storeW ty85 0 rfl rfl rfl rfl rfl rfl rfl ?_
      refine K_nil ?_
      refine Q_then ?_
      refine K_seq ?_
      refine K_region ?_
      refine KV (R_move rfl) rfl ?_
      refine KV (R_loadW ty85 1 rfl rfl rfl rfl) rfl ?_
      refine KV (R_loadW ty85 0 rfl rfl rfl rfl) rfl ?_
      refine K_callO (first := []) [] _ (List.Perm.refl _) c2049 rfl rfl rfl (eqO2_spec V (a.rules[k], .slice xx a.rules[k].args.length xy) (b.rules[k], .slice yx b.rules[k].args.length yy) ⟨xs, xl, xt, xw⟩ ⟨ys, yl, yt, yw⟩) ?_
      rintro _ V1 q hle rfl
      refine KO_own [] (List.nil_sublist _) ?_
      rw [eqP_is]
      have hkk := hk'
      refine KV (R_notP rfl) rfl ?_
      refine K_nil ?_
      refine Q_then ?_
      refine K_if rfl (fun h30 => ?_) (fun h30 => ?_)
      ·
        refine K_seq ?_
        refine K_region ?_
        refine KV (R_assign rfl) rfl ?_
        refine K_nil ?_
        refine Q_then ?_
        refine K_ret ?_
        refine Q_block_ret ?_
        refine Q_then_ret ?_
        refine Q_then_ret ?_
        refine Q_block_ret ?_
        refine Q_then_ret ?_
        refine results_gen (rs := [.tmp 6]) (vs := [_]) rfl ⟨rfl, trivial⟩ ?_
        refine congrArg Value.bool (Eq.symm ?_)
        simp only [decide_eq_false_iff_not]
        intro e; exact h30 (List.getElem_of_eq e hk')
      ·
        have hyes2 : ∀ j (h : j < a.rules.length) (h2 : j < b.rules.length), j < k + 1 → a.rules[j] = b.rules[j] := by
          intro j h h2 hj
          by_cases e : j = k
          · subst e; exact Decidable.not_not.1 h30
          · exact hyes j h h2 (by omega)
        refine K_skip ?_
        refine Q_block ?_
        refine Q_then ?_
        refine K_region ?_
        refine KV (R_add rfl rfl (by omega)) rfl ?_
        refine KV (R_move rfl) rfl ?_
        refine K_nil ?_
        refine Q_nextD (k + 1, V1) ⟨hk', hV.trans hle, hyes2⟩ (by (try dsimp only); omega) ⟨rfl, trivial⟩ rfl rfl rfl
    ·
      have hk' : k = a.rules.length := by omega
      refine K_exit ?_
      refine Q_then_exit ?_
      refine Q_then_exit ?_
      refine Q_block_exit ?_
      refine Q_then ?_
      refine K_seq ?_
      refine K_region ?_
      refine KV (R_assign rfl) rfl ?_
      refine K_nil ?_
      refine Q_then ?_
      refine K_ret ?_
      refine results_gen (rs := [.tmp 6]) (vs := [_]) rfl ⟨rfl, trivial⟩ ?_
      refine congrArg Value.bool (Eq.symm ?_)
      simp only [decide_eq_true_eq]
      exact List.ext_getElem (by omega) fun j h h2 => hyes j h h2 (by omega)

theorem normalize_spec (a : Au) (vr vu vf : Value) (H : View) (ha : RepAu H a vr vu vf) : Sat Tryz.prog F2020 #[.agg #[vr, .int .i64 a.states, vu, vf]] H (fun r H' => ∃ v1 v2 v3, r = .tuple #[.agg #[v1, .int .i64 (errAu (auErr a) (normA a)).states, v2, v3], .int .i64 (auErr a)] ∧ RepAu H' (errAu (auErr a) (normA a)) v1 v2 v3) := by
  obtain ⟨ar, arc, rfl⟩ := ha.r.shape
  obtain ⟨af, afc, rfl⟩ := ha.f.shape
  obtain ⟨au, auc, rfl⟩ := ha.ushape
  refine enterO (n := 13) (args := [.agg #[.slice ar a.ranks.length arc, .int .i64 a.states, .slice au a.rules.length auc, .slice af a.final.length afc]]) Tryz.func29 rfl rfl rfl fun w0 => ?_
  refine K_seq ?_
  refine K_region ?_
  refine KA (A_box rfl) rfl fun b1 => ?_
  refine KA (A_alloc z50) rfl fun b2 => ?_
  refine KV (R_assign rfl) rfl ?_
  refine K_nil ?_
  refine Q_then ?_
  refine K_seq ?_
  refine K_seq ?_
  refine K_region ?_
  refine KV (R_loadW ty50 1 rfl rfl rfl rfl) rfl ?_
  refine K_call c77 rfl rfl (ncheck_spec a _ _ _ H ha) ?_
  rintro _ V1 hv1 rfl
  refine KV (R_assign rfl) rfl ?_
  refine K_nil ?_
  refine Q_then ?_
  refine K_seq ?_
  refine K_region ?_
  refine KV (R_move rfl) rfl ?_
  refine KV (R_cmp rfl rfl rfl) rfl ?_
  refine K_nil ?_
  refine Q_then ?_
  refine K_if rfl (fun h8 => ?_) (fun h8 => ?_)
  ·
    refine K_seq ?_
    refine K_region ?_
    refine KV (R_build z50 pl50 rfl rfl) rfl ?_
    refine KV (R_move rfl) rfl ?_
    refine K_storeW ty50 0 rfl rfl rfl rfl rfl rfl rfl ?_
    refine KV (R_assign rfl) rfl ?_
    refine K_nil ?_
    refine Q_then ?_
    refine K_ret ?_
    refine Q_then_ret ?_
    refine results_gen (rs := [.cell 2 37, .tmp 3]) (vs := [_, _]) rfl ⟨⟨_, _, _, _, _, _, 0, rfl, rfl, ty50, (fun e => by cases e), rfl, rfl⟩, ⟨rfl, trivial⟩⟩ ?_
    rw [errAu_no h8]
    exact ⟨nilS, nilS, nilS, rfl, RepAu.nil _⟩
  ·
    refine K_skip ?_
    refine Q_then ?_
    refine K_seq ?_
    refine K_region ?_
    refine KV (R_loadW ty50 1 rfl rfl rfl rfl) rfl ?_
    refine K_call c2045 rfl rfl (sortedS_spec a _ _ _ V1 (ha.mono hv1)) ?_
    rintro _ V2 hv2 ⟨v1, v2, v3, rfl, hN⟩
    obtain ⟨na, nc, rfl⟩ := hN.r.shape
    obtain ⟨nf, nfc, rfl⟩ := hN.f.shape
    obtain ⟨nu, nuc, rfl⟩ := hN.ushape
    refine K_storeW ty50 0 rfl rfl rfl rfl rfl rfl rfl ?_
    refine KV (R_assign rfl) rfl ?_
    refine K_nil ?_
    refine Q_then ?_
    refine K_ret ?_
    refine results_gen (rs := [.cell 2 37, .tmp 3]) (vs := [_, _]) rfl ⟨⟨_, _, _, _, _, _, 0, rfl, rfl, ty50, (fun e => by cases e), rfl, rfl⟩, ⟨rfl, trivial⟩⟩ ?_
    have h80 := Decidable.not_not.1 h8
    rw [errAu_ok h80, h80]
    exact ⟨_, _, _, rfl, hN⟩

theorem nequal_spec (a b : Au) (v1 v2 v3 w1 w2 w3 : Value) (H : View) (ha : RepAu H a v1 v2 v3) (hb : RepAu H b w1 w2 w3) : Sat Tryz.prog F2022 #[.agg #[v1, .int .i64 a.states, v2, v3], .agg #[w1, .int .i64 b.states, w2, w3]] H (fun r _ => r = .bool (sameM a b)) := by
  obtain ⟨ar, arc, rfl⟩ := ha.r.shape
  obtain ⟨af, afc, rfl⟩ := ha.f.shape
  obtain ⟨au, auc, rfl⟩ := ha.ushape
  obtain ⟨br, brc, rfl⟩ := hb.r.shape
  obtain ⟨bf, bfc, rfl⟩ := hb.f.shape
  obtain ⟨bu, buc, rfl⟩ := hb.ushape
  refine enterO (n := 37) (args := [.agg #[.slice ar a.ranks.length arc, .int .i64 a.states, .slice au a.rules.length auc, .slice af a.final.length afc], .agg #[.slice br b.ranks.length brc, .int .i64 b.states, .slice bu b.rules.length buc, .slice bf b.final.length bfc]]) Tryz.func32 rfl rfl rfl fun w0 => ?_
  refine K_seq ?_
  refine K_region ?_
  refine KA (A_box rfl) rfl fun b2 => ?_
  refine KA (A_box rfl) rfl fun b3 => ?_
  refine KV (R_assign rfl) rfl ?_
  refine K_nil ?_
  refine Q_then ?_
  refine K_seq ?_
  refine K_regionD (fin := true) (R := [0, 2, 1, 3, 4, 5, 6, 7]) (by kernel_rfl) mixed (.cons_cons _ (.cons_cons _ (List.nil_sublist _))) ?_
  refine D_val rfl rfl rfl (R_loadW ty50 1 rfl rfl rfl rfl) ?_
  refine D_val rfl rfl rfl (R_loadW ty50 0 rfl rfl rfl rfl) ?_
  refine D_call rfl rfl c2045 rfl ⟨⟨0, rfl⟩, ⟨1, rfl⟩, trivial⟩ (sortedS_spec a _ _ _ H ha) ?_
  rintro _ V1 hv1 ⟨x1, x2, x3, rfl, hx⟩
  obtain ⟨xr, xrc, rfl⟩ := hx.r.shape
  obtain ⟨xf, xfc, rfl⟩ := hx.f.shape
  obtain ⟨xu, xuc, rfl⟩ := hx.ushape
  refine D_call rfl rfl c2045 rfl ⟨⟨0, rfl⟩, ⟨1, rfl⟩, trivial⟩ (sortedS_spec b _ _ _ V1 (hb.mono hv1)) ?_
  rintro _ V2 hv2 ⟨y1, y2, y3, rfl, hy⟩
  obtain ⟨yr, yrc, rfl⟩ := hy.r.shape
  obtain ⟨yf, yfc, rfl⟩ := hy.f.shape
  obtain ⟨yu, yuc, rfl⟩ := hy.ushape
  have hx2 := hx.mono hv2
  refine D_alloc rfl rfl rfl (A_alloc z50) fun b5 => ?_
  refine D_alloc rfl rfl rfl (A_alloc z50) fun b6 => ?_
  refine D_storeW ty50 1 rfl rfl rfl rfl rfl ⟨⟨1, rfl⟩, ⟨2, rfl⟩, trivial⟩ rfl rfl rfl rfl ?_
  refine D_lastStoreW ty50 1 rfl rfl rfl rfl rfl rfl rfl rfl rfl ?_
  refine Q_then ?_
  refine K_seq ?_
  refine K_region ?_
  refine KV (R_fieldAddr 0 fd50_0 rfl) rfl ?_
  refine KV (R_loadO ty47 0 rfl rfl rfl rfl (fun _ => rfl) rfl) rfl ?_
  refine KV (R_fieldAddr 0 fd50_0 rfl) rfl ?_
  refine KV (R_loadO ty47 1 rfl rfl rfl rfl (fun _ => rfl) rfl) rfl ?_
  refine K_call c51 rfl rfl (eqa_spec a.ranks b.ranks _ _ V2 hx2.r hy.r ha.rl hb.rl) ?_
  rintro _ V3 hv3 rfl
  refine KV (R_move rfl) rfl ?_
  refine K_split ?_ ?_
  ·
    intro h16
    refine K_gyes rfl rfl ?_
    refine KV (R_fieldAddr 1 fd50_1 rfl) rfl ?_
    refine K_gyes rfl rfl ?_
    refine KV (R_loadO ty3 0 rfl rfl rfl rfl (fun _ => rfl) rfl) rfl ?_
    refine K_gyes rfl rfl ?_
    refine KV (R_fieldAddr 1 fd50_1 rfl) rfl ?_
    refine K_gyes rfl rfl ?_
    refine KV (R_loadO ty3 1 rfl rfl rfl rfl (fun _ => rfl) rfl) rfl ?_
    refine K_gyes rfl rfl ?_
    refine KV (R_cmp rfl rfl rfl) rfl ?_
    refine KV (R_pickT rfl rfl) rfl ?_
    refine KV (R_move rfl) rfl ?_
    refine K_split ?_ ?_
    ·
      intro h23
      refine K_gyes rfl rfl ?_
      refine KV (R_fieldAddr 3 fd50_3 rfl) rfl ?_
      refine K_gyes rfl rfl ?_
      refine KV (R_loadO ty25 0 rfl rfl rfl rfl (fun _ => rfl) rfl) rfl ?_
      refine K_gyes rfl rfl ?_
      refine KV (R_fieldAddr 3 fd50_3 rfl) rfl ?_
      refine K_gyes rfl rfl ?_
      refine KV (R_loadO ty25 1 rfl rfl rfl rfl (fun _ => rfl) rfl) rfl ?_
      refine K_gyes rfl rfl ?_
      refine K_call c54 rfl rfl (eqi_spec (sortI a.final) (sortI b.final) _ _ V3 (hx2.mono hv3).f (hy.mono hv3).f hx2.fl hy.fl) ?_
      rintro _ V4 hv4 rfl
      refine KV (R_pickT rfl rfl) rfl ?_
      refine KV (R_move rfl) rfl ?_
      refine K_split ?_ ?_
      ·
        intro h30
        refine K_gyes rfl rfl ?_
        refine KV (R_fieldAddr 2 fd50_2 rfl) rfl ?_
        refine K_gyes rfl rfl ?_
        refine KV (R_loadO ty48 0 rfl rfl rfl rfl (fun _ => rfl) rfl) rfl ?_
        refine K_gyes rfl rfl ?_
        refine KV (R_fieldAddr 2 fd50_2 rfl) rfl ?_
        refine K_gyes rfl rfl ?_
        refine KV (R_loadO ty48 1 rfl rfl rfl rfl (fun _ => rfl) rfl) rfl ?_
        refine K_gyes rfl rfl ?_
        refine K_callO (first := []) [] _ (List.Perm.refl _) c2048 rfl rfl rfl (eqRules_spec (normA a) (normA b) _ _ _ _ _ _ V4 (hx2.mono (hv3.trans hv4)) (hy.mono (hv3.trans hv4))) ?_
        rintro _ V5 q hv5 rfl
        refine KO_own [] (List.nil_sublist _) ?_
        have hdone := hv5
        refine KV (R_pickT rfl rfl) rfl ?_
        refine KV (R_assign rfl) rfl ?_
        refine K_nil ?_
        refine Q_then ?_
        refine K_ret ?_
        refine results_gen (rs := [.tmp 4]) (vs := [_]) rfl ⟨rfl, trivial⟩ ?_
        refine congrArg Value.bool (Eq.trans ?_ (sameM_dec a b).symm)
        simp_all [normA]
      ·
        intro h30
        refine K_gno rfl rfl rfl rfl ?_
        refine K_gno rfl rfl rfl rfl ?_
        refine K_gno rfl rfl rfl rfl ?_
        refine K_gno rfl rfl rfl rfl ?_
        refine K_gno rfl rfl rfl rfl ?_
        refine KV (R_pickF rfl rfl) rfl ?_
        refine KV (R_assign rfl) rfl ?_
        refine K_nil ?_
        refine Q_then ?_
        refine K_ret ?_
        refine results_gen (rs := [.tmp 4]) (vs := [_]) rfl ⟨rfl, trivial⟩ ?_
        refine congrArg Value.bool (Eq.trans ?_ (sameM_dec a b).symm)
        simp_all [normA]
    ·
      intro h23
      refine K_gno rfl rfl rfl rfl ?_
      refine K_gno rfl rfl rfl rfl ?_
      refine K_gno rfl rfl rfl rfl ?_
      refine K_gno rfl rfl rfl rfl ?_
      refine K_gno rfl rfl rfl rfl ?_
      refine KV (R_pickF rfl rfl) rfl ?_
      refine KV (R_move rfl) rfl ?_
      refine K_gno rfl rfl rfl rfl ?_
      refine K_gno rfl rfl rfl rfl ?_
      refine K_gno rfl rfl rfl rfl ?_
      refine K_gno rfl rfl rfl rfl ?_
      refine K_gno rfl rfl rfl rfl ?_
      refine KV (R_pickF rfl rfl) rfl ?_
      refine KV (R_assign rfl) rfl ?_
      refine K_nil ?_
      refine Q_then ?_
      refine K_ret ?_
      refine results_gen (rs := [.tmp 4]) (vs := [_]) rfl ⟨rfl, trivial⟩ ?_
      refine congrArg Value.bool (Eq.trans ?_ (sameM_dec a b).symm)
      simp_all [normA]
  ·
    intro h16
    refine K_gno rfl rfl rfl rfl ?_
    refine K_gno rfl rfl rfl rfl ?_
    refine K_gno rfl rfl rfl rfl ?_
    refine K_gno rfl rfl rfl rfl ?_
    refine K_gno rfl rfl rfl rfl ?_
    refine KV (R_pickF rfl rfl) rfl ?_
    refine KV (R_move rfl) rfl ?_
    refine K_gno rfl rfl rfl rfl ?_
    refine K_gno rfl rfl rfl rfl ?_
    refine K_gno rfl rfl rfl rfl ?_
    refine K_gno rfl rfl rfl rfl ?_
    refine K_gno rfl rfl rfl rfl ?_
    refine KV (R_pickF rfl rfl) rfl ?_
    refine KV (R_move rfl) rfl ?_
    refine K_gno rfl rfl rfl rfl ?_
    refine K_gno rfl rfl rfl rfl ?_
    refine K_gno rfl rfl rfl rfl ?_
    refine K_gno rfl rfl rfl rfl ?_
    refine K_gno rfl rfl rfl rfl ?_
    refine KV (R_pickF rfl rfl) rfl ?_
    refine KV (R_assign rfl) rfl ?_
    refine K_nil ?_
    refine Q_then ?_
    refine K_ret ?_
    refine results_gen (rs := [.tmp 4]) (vs := [_]) rfl ⟨rfl, trivial⟩ ?_
    refine congrArg Value.bool (Eq.trans ?_ (sameM_dec a b).symm)
    simp_all [normA]
end Go.Proofs.X

namespace Go.Proofs.X
open Go Pal Go.Proofs
attribute [local irreducible] Pal.KO Pal.KC Pal.KQ Pal.KD
theorem c30 : callable Tryz.prog F30 = true := by kernel_rfl
end Go.Proofs.X

namespace Go.Proofs.X
open Go Pal Go.Proofs
attribute [local irreducible] Pal.KO Pal.KC Pal.KQ Pal.KD
theorem c2020 : callable Tryz.prog F2020 = true := by kernel_rfl
theorem c2022 : callable Tryz.prog F2022 = true := by kernel_rfl
end Go.Proofs.X

namespace Go.Proofs.X
open Go Pal Go.Proofs
attribute [local irreducible] Pal.KO Pal.KC Pal.KQ Pal.KD

theorem sortedN_spec (a : Au) (vr vu vf : Value) (H : View) (ha : RepAu H a vr vu vf) : SatO Tryz.prog F2045 #[.agg #[vr, .int .i64 a.states, vu, vf]] H [] (fun r H' q => ∃ ra rc ua uc fa fc ps, r = .agg #[.slice ra a.ranks.length rc, .int .i64 a.states, .slice ua ps.length uc, .slice fa (sortI a.final).length fc] ∧ SI H' (.slice ra a.ranks.length rc) a.ranks ∧ ps.map (·.1) = sortO a.rules ∧
    q = [row (.slice ua ps.length uc) T85 3 ps.length (cellsP ps), row (.slice fa (sortI a.final).length fc) T3 1 (sortI a.final).length (ints (sortI a.final)), many (rowsFrom T3 ps)]) :=
  (sorted_spec a vr vu vf H ha).mono' fun r H' q ⟨⟨vr, ua, uc, fa, fc, ps, h1, h2, h3, h4⟩, _⟩ => by
    obtain ⟨ra, rc, rfl⟩ := h2.shape
    exact ⟨ra, rc, ua, uc, fa, fc, ps, h1, h2, h3, h4⟩

theorem two_spec (a b : Au) (v1 v2 v3 w1 w2 w3 : Value) (H : View) (ha : RepAu H a v1 v2 v3) (hb : RepAu H b w1 w2 w3) : Sat Tryz.prog F2061 #[.agg #[v1, .int .i64 a.states, v2, v3], .agg #[w1, .int .i64 b.states, w2, w3]] H (fun r _ => r = .int .i64 (twoErr a b)) := by
  obtain ⟨ar, arc, rfl⟩ := ha.r.shape
  obtain ⟨af, afc, rfl⟩ := ha.f.shape
  obtain ⟨au, auc, rfl⟩ := ha.ushape
  obtain ⟨br, brc, rfl⟩ := hb.r.shape
  obtain ⟨bf, bfc, rfl⟩ := hb.f.shape
  obtain ⟨bu, buc, rfl⟩ := hb.ushape
  refine enterO (n := 23) (args := [.agg #[.slice ar a.ranks.length arc, .int .i64 a.states, .slice au a.rules.length auc, .slice af a.final.length afc], .agg #[.slice br b.ranks.length brc, .int .i64 b.states, .slice bu b.rules.length buc, .slice bf b.final.length bfc]]) Tryz.func88 rfl rfl rfl fun w0 => ?_
  refine K_seq ?_
  refine K_region ?_
  refine KA (A_box rfl) rfl fun b2 => ?_
  refine KA (A_box rfl) rfl fun b3 => ?_
  refine KV (R_assign rfl) rfl ?_
  refine K_nil ?_
  refine Q_then ?_
  refine K_seq ?_
  refine K_seq ?_
  refine K_region ?_
  refine KV (R_loadW ty50 1 rfl rfl rfl rfl) rfl ?_
  refine K_call c77 rfl rfl (ncheck_spec a _ _ _ H ha) ?_
  rintro _ V1 hv1 rfl
  refine KV (R_assign rfl) rfl ?_
  refine K_nil ?_
  refine Q_then ?_
  refine K_seq ?_
  refine K_region ?_
  refine KV (R_move rfl) rfl ?_
  refine KV (R_cmp rfl rfl rfl) rfl ?_
  refine K_nil ?_
  refine Q_then ?_
  refine K_if rfl (fun h10 => ?_) (fun h10 => ?_)
  ·
    refine K_seq ?_
    refine K_region ?_
    refine KV (R_move rfl) rfl ?_
    refine KV (R_assign rfl) rfl ?_
    refine K_nil ?_
    refine Q_then ?_
    refine K_ret ?_
    refine Q_then_ret ?_
    refine results_gen (rs := [.tmp 4]) (vs := [_]) rfl ⟨rfl, trivial⟩ ?_
    refine congrArg (Value.int .i64) ?_
    unfold twoErr
    simp_all
  ·
    refine K_skip ?_
    refine Q_then ?_
    refine K_seq ?_
    refine K_seq ?_
    refine K_region ?_
    refine KV (R_loadW ty50 0 rfl rfl rfl rfl) rfl ?_
    refine K_call c77 rfl rfl (ncheck_spec b _ _ _ V1 (hb.mono hv1)) ?_
    rintro _ V2 hv2 rfl
    refine KV (R_assign rfl) rfl ?_
    refine K_nil ?_
    refine Q_then ?_
    refine K_seq ?_
    refine K_region ?_
    refine KV (R_move rfl) rfl ?_
    refine KV (R_cmp rfl rfl rfl) rfl ?_
    refine K_nil ?_
    refine Q_then ?_
    refine K_if rfl (fun h15 => ?_) (fun h15 => ?_)
    ·
      refine K_seq ?_
      refine K_region ?_
      refine KV (R_move rfl) rfl ?_
      refine KV (R_assign rfl) rfl ?_
      refine K_nil ?_
      refine Q_then ?_
      refine K_ret ?_
      refine Q_then_ret ?_
      refine results_gen (rs := [.tmp 4]) (vs := [_]) rfl ⟨rfl, trivial⟩ ?_
      refine congrArg (Value.int .i64) ?_
      unfold twoErr
      simp_all
    ·
      refine K_skip ?_
      refine Q_then ?_
      refine K_seq ?_
      refine K_seq ?_
      refine K_region ?_
      refine KV (R_fieldAddr 0 fd50_0 rfl) rfl ?_
      refine KV (R_loadO ty47 1 rfl rfl rfl rfl (fun _ => rfl) rfl) rfl ?_
      refine KV (R_fieldAddr 0 fd50_0 rfl) rfl ?_
      refine KV (R_loadO ty47 0 rfl rfl rfl rfl (fun _ => rfl) rfl) rfl ?_
      refine K_call c51 rfl rfl (eqa_spec a.ranks b.ranks _ _ V2 (ha.mono (hv1.trans hv2)).r (hb.mono (hv1.trans hv2)).r ha.rl hb.rl) ?_
      rintro _ V3 hv3 rfl
      refine KV (R_notP rfl) rfl ?_
      refine K_nil ?_
      refine Q_then ?_
      refine K_if rfl (fun h22 => ?_) (fun h22 => ?_)
      ·
        refine K_seq ?_
        refine K_region ?_
        refine KV (R_assign rfl) rfl ?_
        refine K_nil ?_
        refine Q_then ?_
        refine K_ret ?_
        refine Q_then_ret ?_
        refine results_gen (rs := [.tmp 4]) (vs := [_]) rfl ⟨rfl, trivial⟩ ?_
        refine congrArg (Value.int .i64) ?_
        unfold twoErr
        simp_all
      ·
        refine K_skip ?_
        refine Q_then ?_
        refine K_seq ?_
        refine K_region ?_
        refine KV (R_assign rfl) rfl ?_
        refine K_nil ?_
        refine Q_then ?_
        refine K_ret ?_
        refine results_gen (rs := [.tmp 4]) (vs := [_]) rfl ⟨rfl, trivial⟩ ?_
        refine congrArg (Value.int .i64) ?_
        unfold twoErr
        simp_all
end Go.Proofs.X

namespace Go.Proofs.X
open Go Pal Go.Proofs
attribute [local irreducible] Pal.KO Pal.KC Pal.KQ Pal.KD
theorem c2061 : callable Tryz.prog F2061 = true := by kernel_rfl
set_option maxHeartbeats 1000000 in
theorem union_spec (a b : Au) (v1 v2 v3 w1 w2 w3 : Value) (H : View) (ha : RepAu H a v1 v2 v3) (hb : RepAu H b w1 w2 w3) (hs : a.states + b.states ≤ 256) (hu : a.rules.length + b.rules.length ≤ 65536) : Sat Tryz.prog F2031 #[.agg #[v1, .int .i64 a.states, v2, v3], .agg #[w1, .int .i64 b.states, w2, w3]] H (fun r H' => ∃ v1 v2 v3, r = .tuple #[.agg #[v1, .int .i64 (errAu (twoErr a b) (normA (uniA a b))).states, v2, v3], .int .i64 (twoErr a b)] ∧ RepAu H' (errAu (twoErr a b) (normA (uniA a b))) v1 v2 v3) := by
  obtain ⟨ar, arc, rfl⟩ := ha.r.shape
  obtain ⟨af, afc, rfl⟩ := ha.f.shape
  obtain ⟨au, auc, rfl⟩ := ha.ushape
  obtain ⟨br, brc, rfl⟩ := hb.r.shape
  obtain ⟨bf, bfc, rfl⟩ := hb.f.shape
  obtain ⟨bu, buc, rfl⟩ := hb.ushape
  have habB := hb.b.norm
  have habA := ha.b.norm
  have hafl := ha.fl
  have hbfl := hb.fl
  have haul := ha.ul
  have hbul := hb.ul
  refine enterO (n := 100) (args := [.agg #[.slice ar a.ranks.length arc, .int .i64 a.states, .slice au a.rules.length auc, .slice af a.final.length afc], .agg #[.slice br b.ranks.length brc, .int .i64 b.states, .slice bu b.rules.length buc, .slice bf b.final.length bfc]]) Tryz.func42 rfl rfl rfl fun w0 => ?_
  refine K_seq ?_
  refine K_region ?_
  refine KA (A_box rfl) rfl fun b2 => ?_
  refine KA (A_box rfl) rfl fun b3 => ?_
  refine KA (A_alloc z50) rfl fun b4 => ?_
  refine KV (R_assign rfl) rfl ?_
  refine K_nil ?_
  refine Q_then ?_
  refine K_seq ?_
  refine K_seq ?_
  refine K_region ?_
  refine KV (R_loadW ty50 2 rfl rfl rfl rfl) rfl ?_
  refine KV (R_loadW ty50 1 rfl rfl rfl rfl) rfl ?_
  refine K_call c2061 rfl rfl (two_spec a b _ _ _ _ _ _ H ha hb) ?_
  rintro _ V1 hv1 rfl
  refine KV (R_assign rfl) rfl ?_
  refine K_nil ?_
  refine Q_then ?_
  refine K_seq ?_
  refine K_region ?_
  refine KV (R_move rfl) rfl ?_
  refine KV (R_cmp rfl rfl rfl) rfl ?_
  refine K_nil ?_
  refine Q_then ?_
  refine K_if rfl (fun hte => ?_) (fun hte => ?_)
  ·
    refine K_seq ?_
    refine K_region ?_
    refine KV (R_build z50 pl50 rfl rfl) rfl ?_
    refine KV (R_move rfl) rfl ?_
    refine K_storeW ty50 0 rfl rfl rfl rfl rfl rfl rfl ?_
    refine KV (R_assign rfl) rfl ?_
    refine K_nil ?_
    refine Q_then ?_
    refine K_ret ?_
    refine Q_then_ret ?_
    refine results_gen (rs := [.cell 4 37, .tmp 5]) (vs := [_, _]) rfl ⟨⟨_, _, _, _, _, _, 0, rfl, rfl, ty50, (fun e => by cases e), rfl, rfl⟩, ⟨rfl, trivial⟩⟩ ?_
    rw [errAu_no hte]
    exact ⟨nilS, nilS, nilS, rfl, RepAu.nil _⟩
  ·
    have hte0 := Decidable.not_not.1 hte
    obtain ⟨hea, heb, hrr⟩ := twoErr_zero hte0
    have hoA := AuOk.of hea
    have hoB := AuOk.of heb
    have hsA := hoA.st
    have hsB := hoB.st
    refine K_skip ?_
    refine Q_then ?_
    refine K_seq ?_
    refine K_regionD (fin := true) (R := [0, 2, 1, 3, 4, 5, 6, 7]) (by kernel_rfl) mixed (.cons_cons _ (.cons_cons _ (.cons_cons _ (List.nil_sublist _)))) ?_
    refine D_val rfl rfl rfl (R_loadW ty50 2 rfl rfl rfl rfl) ?_
    refine D_val rfl rfl rfl (R_loadW ty50 1 rfl rfl rfl rfl) ?_
    refine D_callO (first := []) [] _ rfl rfl c2045 rfl rfl (List.Perm.refl _) ⟨⟨0, rfl⟩, ⟨1, rfl⟩, ⟨2, rfl⟩, trivial⟩ (sortedN_spec a _ _ _ V1 (ha.mono hv1)) ?_
    rintro _ V2 q2 hv2 ⟨rA, rcA, uA, ucA, fA, fcA, psA, rfl, hRA, hpsA, rfl⟩
    dsimp only [List.cons_append, List.nil_append]
    refine D_callO (first := []) [] _ rfl rfl c2045 rfl rfl (List.Perm.refl _) ⟨⟨3, rfl⟩, ⟨4, rfl⟩, ⟨5, rfl⟩, trivial⟩ (sortedN_spec b _ _ _ V2 (hb.mono (hv1.trans hv2))) ?_
    rintro _ V3 q3 hv3 ⟨rB, rcB, uB, ucB, fB, fcB, psB, rfl, hRB, hpsB, rfl⟩
    dsimp only [List.cons_append, List.nil_append]
    refine D_alloc rfl rfl rfl (A_alloc z50) fun b7 => ?_
    refine D_alloc rfl rfl rfl (A_alloc z50) fun b8 => ?_
    refine D_storeW ty50 1 rfl rfl rfl rfl rfl ⟨⟨7, rfl⟩, ⟨8, rfl⟩, ⟨9, rfl⟩, trivial⟩ rfl rfl rfl rfl ?_
    refine D_lastStoreW ty50 1 rfl rfl rfl rfl rfl rfl rfl rfl rfl ?_
    refine KQ_front 7 rfl ?_
    try dsimp only [List.eraseIdx]
    refine KQ_pubmany (fun p hp => habA.u p.1 (by show p.1 ∈ sortO a.rules; rw [← hpsA]; exact List.mem_map.2 ⟨p, hp, rfl⟩)) fun V4 hv4 hrA => ?_
    skip
    refine KQ_front 3 rfl ?_
    try dsimp only [List.eraseIdx]
    refine KQ_pubrow rfl fun V5 hv5 hfB => ?_
    skip
    refine KQ_front 2 rfl ?_
    try dsimp only [List.eraseIdx]
    refine KQ_pubrow rfl fun V6 hv6 hrowB => ?_
    skip
    have hlA : psA.length = (sortO a.rules).length := by rw [← hpsA]; simp
    have hlB : psB.length = (sortO b.rules).length := by rw [← hpsB]; simp
    have hlA2 := sortO_len a.rules
    have hlB2 := sortO_len b.rules
    have hfA2 := sortI_small hoA
    have hfB2 := sortI_small hoB
    refine Q_then ?_
    refine K_seq ?_
    refine K_region ?_
    refine KV (R_fieldAddr 1 fd50_1 rfl) rfl ?_
    refine KV (R_loadO ty3 0 rfl rfl rfl rfl (fun _ => rfl) rfl) rfl ?_
    refine KV (R_fieldAddr 1 fd50_1 rfl) rfl ?_
    refine KV (R_loadO ty3 6 rfl rfl rfl rfl (fun _ => rfl) rfl) rfl ?_
    refine KV (R_add rfl rfl (by omega)) rfl ?_
    refine KV (R_fieldAddr 1 fd50_1 rfl) rfl ?_
    refine K_store ty3 0 rfl rfl rfl rfl rfl rfl ?_
    refine K_nil ?_
    refine Q_then ?_
    refine K_seq ?_
    refine K_seq ?_
    refine K_region ?_
    refine KV (R_fieldAddr 1 fd50_1 rfl) rfl ?_
    refine KV (R_loadO ty3 0 rfl rfl rfl rfl (fun _ => rfl) rfl) rfl ?_
    refine KV (R_cmp rfl rfl rfl) rfl ?_
    refine KV (R_move rfl) rfl ?_
    refine K_split ?_ ?_
    ·
      intro h34
      exact absurd h34 (by omega)
    ·
      intro h34
      refine K_gyes rfl rfl ?_
      refine KV (R_fieldAddr 2 fd50_2 rfl) rfl ?_
      refine K_gyes rfl rfl ?_
      refine KV (R_loadO ty48 0 rfl rfl rfl rfl (fun _ => rfl) rfl) rfl ?_
      refine K_gyes rfl rfl ?_
      refine KV (R_len sl48 rfl) rfl ?_
      refine K_gyes rfl rfl ?_
      refine KV (R_fieldAddr 2 fd50_2 rfl) rfl ?_
      refine K_gyes rfl rfl ?_
      refine KV (R_loadO ty48 1 rfl rfl rfl rfl (fun _ => rfl) rfl) rfl ?_
      refine K_gyes rfl rfl ?_
      refine KV (R_len sl48 rfl) rfl ?_
      refine K_gyes rfl rfl ?_
      refine KV (R_add rfl rfl (by omega)) rfl ?_
      refine K_gyes rfl rfl ?_
      refine KV (R_cmp rfl rfl rfl) rfl ?_
      refine KV (R_pickF rfl rfl) rfl ?_
      refine K_nil ?_
      refine Q_then ?_
      refine K_if rfl (fun h43 => ?_) (fun h43 => ?_)
      ·
        exact absurd h43 (by omega)
      ·
        refine K_skip ?_
        refine Q_then ?_
        refine K_seq ?_
        refine K_seq ?_
        refine K_region ?_
        refine KV (R_fieldAddr 2 fd50_2 rfl) rfl ?_
        refine KV (R_loadO ty48 1 rfl rfl rfl rfl (fun _ => rfl) rfl) rfl ?_
        refine KV (R_len sl48 rfl) rfl ?_
        refine KV (R_move rfl) rfl ?_
        refine K_nil ?_
        refine Q_then ?_
        refine K_block ?_
        refine K_loopD (G := Nat × Value) [10, 11, 48, 49, 50, 51, 52, 53, 54, 55, 56, 57, 58, 59, 60, 61, 62, 63, 64, 65, 66, 67, 68, 69, 70, 71, 72, 73, 74, 75, 76, 77, 78, 79, 80] (fun g => [(48, .int .i64 (g.1 : Int))]) (fun hl g => (((hl.set 3 (row g.2 T85 3 (psA.length + g.1) (cellsP (psA ++ ((psB.take g.1).map (shP a.states)))))).set 2 (many (rowsFrom T3 (((psB.take g.1).map (shP a.states)) ++ psB.drop g.1)))).set 0 (blk b7 (.cells #[.slice rA a.ranks.length rcA, .int .i64 (a.states + b.states), g.2, .slice fA (sortI a.final).length fcA] T50 (0, 0))))) (fun g => V6) (fun g => (g.1 ≤ psB.length) ∧ (∃ ad cp, g.2 = .slice ad (psA.length + g.1) cp)) (fun g => psB.length - g.1) (0, .slice uA psA.length ucA) ⟨Nat.zero_le _, _, _, rfl⟩ ⟨rfl, trivial⟩ (by simp only [args0, Nat.reduceAdd, del, memN, beqN, Nat.reduceBEq, cond_true, cond_false]; rfl) (by simp only [List.take_zero, List.map_nil, List.append_nil, List.nil_append, List.drop_zero, Nat.add_zero]; rfl) rfl ?_
        rintro ⟨k, w⟩ ⟨hk, hw⟩
        dsimp only at hk hw
        dsimp only [List.set, List.cons_append, List.nil_append]
        obtain ⟨wa, wcp, rfl⟩ := hw
        refine K_seq ?_
        refine K_region ?_
        refine KV (R_cmp rfl rfl rfl) rfl ?_
        refine K_nil ?_
        refine Q_then ?_
        refine K_seq ?_
        refine K_if rfl (fun h49 => ?_) (fun h49 => ?_)
        ·
          have hk' : k < psB.length := by omega
          obtain ⟨ub, uo, hue, hre0⟩ := rows_elem hrowB.sl hk'
          cases hue
          have hmem : psB[k].1 ∈ b.rules := sortO_mem.1 (by rw [← hpsB]; exact List.mem_map.2 ⟨_, List.getElem_mem hk', rfl⟩)
          obtain ⟨k1, k2, k3, k4, k5, k6⟩ := hoB.ru _ hmem
          have hal := hoB.args2 _ hmem
          refine K_skip ?_
          refine Q_then ?_
          refine K_seq ?_
          refine K_block ?_
          refine K_seq ?_
          refine KC_front 2 rfl ?_
          try dsimp only [List.eraseIdx]
          rw [List.drop_eq_getElem_cons hk']
          refine KC_takerow _ _ _ ?_
          refine KC_shape 0 rfl ?_
          rintro ⟨xa, xc, hxe⟩
          have hre : At V6 ub (uo + k * 3) [.int .i64 psB[k].1.sym, .slice xa psB[k].1.args.length xc, .int .i64 psB[k].1.to] := by rw [← hxe]; exact hre0
          rw [hxe]
          refine K_region ?_
          refine KV (R_indexN sl48 ty85 rfl rfl (by omega)) rfl ?_
          refine KV (R_loadH ty85 rfl (hre) rfl (fun e => by cases e) rfl) rfl ?_
          refine KA (A_alloc z85) rfl fun b10 => ?_
          refine K_storeW ty85 0 rfl rfl rfl rfl rfl rfl rfl ?_
          refine K_nil ?_
          refine Q_then ?_
          refine K_seq ?_
          refine K_seq ?_
          refine K_region ?_
          refine KV (R_fieldAddr 1 fd85_1 rfl) rfl ?_
          refine KV (R_loadO ty25 0 rfl rfl rfl rfl (fun _ => rfl) rfl) rfl ?_
          refine KV (R_len sl25 rfl) rfl ?_
          refine KV (R_move rfl) rfl ?_
          refine K_nil ?_
          refine Q_then ?_
          refine K_block ?_
          refine K_loopD (G := Nat) [11, 55, 56, 57, 58, 59, 60, 61, 62, 63, 64, 65, 66, 67] (fun g => [(55, .int .i64 (g : Int))]) (fun hl g => (hl.set 1 (row (.slice xa psB[k].1.args.length xc) T3 1 psB[k].1.args.length (ints (shTo a.states psB[k].1.args g))))) (fun g => V6) (fun g => (g ≤ psB[k].1.args.length)) (fun g => psB[k].1.args.length - g) 0 (Nat.zero_le _) ⟨rfl, trivial⟩ (by simp only [args0, Nat.reduceAdd, del, memN, beqN, Nat.reduceBEq, cond_true, cond_false]; rfl) (by rw [shTo_zero]; rfl) rfl ?_
          rintro j hj
          try dsimp only at hj
          dsimp only [List.set, List.cons_append, List.nil_append]
          refine K_seq ?_
          refine K_region ?_
          refine KV (R_cmp rfl rfl rfl) rfl ?_
          refine K_nil ?_
          refine Q_then ?_
          refine K_seq ?_
          refine K_if rfl (fun h56 => ?_) (fun h56 => ?_)
          ·
            have hj' : j < psB[k].1.args.length := by omega
            have hxb := k4 _ (List.getElem_mem hj')
            refine K_skip ?_
            refine Q_then ?_
            refine K_seq ?_
            refine K_block ?_
            refine K_seq ?_
            refine K_region ?_
            refine KV (R_move rfl) rfl ?_
            refine KV (R_assign rfl) rfl ?_
            refine K_nil ?_
            refine Q_then ?_
            refine KC_front 1 rfl ?_
            try dsimp only [List.eraseIdx]
            refine KC_openRow (fun _ h _ => absurd h (by omega)) (fun gb cap tail h1 h2 h3 h4 h5 => ?_)
            cases h1
            rw [ints_flat (shTo a.states psB[k].1.args j)]
            refine K_regionD (fin := true) (R := [0, 1, 2, 3, 4, 5, 6, 7, 8, 9]) (by kernel_rfl) mixed (.cons_cons _ (.cons_cons _ (.cons _ (.cons_cons _ (.cons _ (.cons _ (.cons _ (.cons_cons _ (.cons_cons _ (.cons_cons _ (List.nil_sublist _))))))))))) ?_
            refine D_val rfl rfl rfl (R_fieldAddr 1 fd85_1 rfl) ?_
            refine D_val rfl rfl rfl (R_loadO ty25 1 rfl rfl rfl rfl (fun _ => rfl) rfl) ?_
            refine D_val rfl rfl rfl (R_move rfl) ?_
            refine D_val rfl rfl rfl (R_index sl25 ty3 rfl rfl ⟨by omega, by omega⟩) ?_
            refine D_val rfl rfl rfl (R_loadO ty3 0 rfl rfl (shTo_cell tail hj' (by omega)) rfl (fun _ => rfl) rfl) ?_
            refine D_val rfl rfl rfl (R_fieldAddr 1 fd50_1 rfl) ?_
            refine D_val rfl rfl rfl (R_loadO ty3 5 rfl rfl rfl rfl (fun _ => rfl) rfl) ?_
            refine D_val rfl rfl rfl (R_add rfl rfl (by omega)) ?_
            refine D_val rfl rfl rfl (R_index sl25 ty3 rfl rfl ⟨by omega, by omega⟩) ?_
            refine D_lastStoreE ty3 0 rfl rfl rfl rfl rfl rfl (show 0 + j * 1 + 1 ≤ _ from by rw [List.size_toArray, List.length_append, ← ints_flat, ints_len, shTo_len]; omega) rfl (shTo_put tail hj' (by omega)) ?_
            refine KQ_front 0 rfl ?_
            try dsimp only [List.eraseIdx]
            refine KQ_shutRow (sz := 1) (k := psB[k].1.args.length) (xs := ints (shTo a.states psB[k].1.args (j + 1))) h2 h3 (by rw [ints_len, shTo_len]; omega) (by rw [List.size_toArray, List.length_append, ← ints_flat, ints_len, shTo_len]; rw [List.length_append, ints_len, shTo_len] at h5; exact h5) (by rw [← ints_flat]; exact List.take_left' (by rw [ints_len, shTo_len]; omega)) ?_
            try dsimp only [List.eraseIdx, List.set]
            refine Q_block ?_
            refine Q_then ?_
            refine K_region ?_
            refine KV (R_add rfl rfl (by omega)) rfl ?_
            refine KV (R_move rfl) rfl ?_
            refine K_nil ?_
            refine KQ_sel [1, 0, 0, 0, 0, 0, 0, 0, 0, 0] rfl ?_
            refine Q_nextD (j + 1) hj' (by (try dsimp only); omega) ⟨rfl, trivial⟩ rfl rfl rfl
          ·
            have hj' : j = psB[k].1.args.length := by omega
            rw [hj']
            refine K_exit ?_
            refine Q_then_exit ?_
            refine Q_then_exit ?_
            refine Q_block_exit ?_
            refine Q_then ?_
            refine K_seq ?_
            refine K_region ?_
            refine KV (R_fieldAddr 2 fd85_2 rfl) rfl ?_
            refine KV (R_loadO ty3 0 rfl rfl rfl rfl (fun _ => rfl) rfl) rfl ?_
            refine KV (R_fieldAddr 1 fd50_1 rfl) rfl ?_
            refine KV (R_loadO ty3 9 rfl rfl rfl rfl (fun _ => rfl) rfl) rfl ?_
            refine KV (R_add rfl rfl (by omega)) rfl ?_
            refine KV (R_fieldAddr 2 fd85_2 rfl) rfl ?_
            refine K_store ty3 0 rfl rfl rfl rfl rfl rfl ?_
            refine K_nil ?_
            refine Q_then ?_
            refine K_region ?_
            refine KV (R_fieldAddr 2 fd50_2 rfl) rfl ?_
            refine KV (R_loadO ty48 3 rfl rfl rfl rfl (fun _ => rfl) rfl) rfl ?_
            refine KV (R_loadW ty85 0 rfl rfl rfl rfl) rfl ?_
            refine KA (A_buildSlice (vs := [.agg #[.int .i64 psB[k].1.sym, .slice xa psB[k].1.args.length xc, .int .i64 (psB[k].1.to + a.states)]]) sl48 ty85 z85 rfl rfl (by simp [Value.cells]) (by simp) rfl (by decide)) rfl fun b77 => ?_
            refine K_append1 5 ap48 rfl rfl rfl rfl rfl rfl ⟨by omega, by omega⟩ rfl fun a78 k78 hn78 => ?_
            refine KV (R_fieldAddr 2 fd50_2 rfl) rfl ?_
            refine K_store ty48 4 rfl rfl rfl rfl rfl rfl ?_
            refine K_nil ?_
            have hrowe : row (.slice xa psB[k].1.args.length xc) T3 1 psB[k].1.args.length (ints (shTo a.states psB[k].1.args psB[k].1.args.length)) = row (shP a.states psB[k]).2 T3 1 (shP a.states psB[k]).1.args.length (ints (shP a.states psB[k]).1.args) := by rw [shTo_full]; simp [shP, shR, hxe]
            rw [hrowe]
            refine KQ_front 3 rfl ?_
            try dsimp only [List.eraseIdx]
            refine KQ_front 3 rfl ?_
            try dsimp only [List.eraseIdx]
            refine KQ_putrow (((psB.take k).map (shP a.states))) (psB.drop (k + 1)) (shP a.states psB[k]) ?_
            skip
            refine Q_block ?_
            refine Q_then ?_
            refine K_region ?_
            refine KV (R_add rfl rfl (by omega)) rfl ?_
            refine KV (R_move rfl) rfl ?_
            refine K_nil ?_
            refine KQ_sel [3, 3, 0, 0, 1, 1, 1, 1] rfl ?_
            have hN1 : cellsP (psA ++ (psB.take (k + 1)).map (shP a.states)) = cellsP (psA ++ ((psB.take k).map (shP a.states))) ++ cellRV (shP a.states psB[k]) := by rw [List.take_succ_eq_append_getElem hk', List.map_append, ← List.append_assoc, List.map_cons, List.map_nil, cellsP_snoc]
            have hN2 : (psB.take (k + 1)).map (shP a.states) ++ psB.drop (k + 1) = ((psB.take k).map (shP a.states)) ++ shP a.states psB[k] :: psB.drop (k + 1) := by rw [List.take_succ_eq_append_getElem hk', List.map_append, List.append_assoc]; rfl
            have hN3 : cellRV (shP a.states psB[k]) = [.int .i64 psB[k].1.sym, .slice xa psB[k].1.args.length xc, .int .i64 (psB[k].1.to + a.states)] := by unfold cellRV; simp [shP, shR, hxe]
            refine Q_nextD (k + 1, .slice a78 (psA.length + k + 1) k78) ⟨hk', _, _, rfl⟩ (by (try dsimp only); omega) ⟨rfl, trivial⟩ rfl (by dsimp only [List.set]; rw [hN1, hN2, hN3]; rfl) rfl
        ·
          have hk' : k = psB.length := by omega
          subst hk'
          refine K_exit ?_
          refine Q_then_exit ?_
          refine Q_then_exit ?_
          refine Q_block_exit ?_
          refine Q_then ?_
          refine K_seq ?_
          refine K_seq ?_
          refine K_region ?_
          refine KV (R_fieldAddr 3 fd50_3 rfl) rfl ?_
          refine KV (R_loadO ty25 1 rfl rfl rfl rfl (fun _ => rfl) rfl) rfl ?_
          refine KV (R_len sl25 rfl) rfl ?_
          refine KV (R_move rfl) rfl ?_
          refine K_nil ?_
          refine Q_then ?_
          refine K_block ?_
          refine K_loopD (G := Nat × Value) [13, 84, 85, 86, 87, 88, 89, 90, 91, 92, 93, 94, 95, 96, 97] (fun g => [(84, .int .i64 (g.1 : Int))]) (fun hl g => ((hl.set 4 (row g.2 T3 1 ((sortI a.final).length + g.1) (ints (sortI a.final ++ ((sortI b.final).take g.1).map (· + a.states))))).set 0 (blk b7 (.cells #[.slice rA a.ranks.length rcA, .int .i64 (a.states + b.states), .slice wa (psA.length + psB.length) wcp, g.2] T50 (0, 0))))) (fun g => V6) (fun g => (g.1 ≤ (sortI b.final).length) ∧ (∃ ad cp, g.2 = .slice ad ((sortI a.final).length + g.1) cp)) (fun g => (sortI b.final).length - g.1) (0, .slice fA (sortI a.final).length fcA) ⟨Nat.zero_le _, _, _, rfl⟩ ⟨rfl, trivial⟩ (by simp only [args0, Nat.reduceAdd, del, memN, beqN, Nat.reduceBEq, cond_true, cond_false]; rfl) (by simp only [List.take_zero, List.map_nil, List.append_nil, Nat.add_zero]; rfl) rfl ?_
          rintro ⟨k, w2⟩ ⟨hk2, hw2⟩
          dsimp only at hk2 hw2
          dsimp only [List.set, List.cons_append, List.nil_append]
          obtain ⟨w2a, w2c, rfl⟩ := hw2
          refine K_seq ?_
          refine K_region ?_
          refine KV (R_cmp rfl rfl rfl) rfl ?_
          refine K_nil ?_
          refine Q_then ?_
          refine K_seq ?_
          refine K_if rfl (fun h85 => ?_) (fun h85 => ?_)
          ·
            have hk' : k < (sortI b.final).length := by omega
            obtain ⟨qb, qo, hqe, hqx⟩ := (show SI V6 _ (sortI b.final) from ⟨hfB.sl.mono hv6, habB.f⟩).get hk'
            cases hqe
            have hfb := hoB.fi _ (sortI_mem.1 (List.getElem_mem hk'))
            refine K_skip ?_
            refine Q_then ?_
            refine K_seq ?_
            refine K_block ?_
            refine K_seq ?_
            refine K_region ?_
            refine KV (R_indexN sl25 ty3 rfl rfl (by omega)) rfl ?_
            refine KV (R_loadH ty3 rfl (hqx) rfl (fun _ => rfl) rfl) rfl ?_
            refine KV (R_assign rfl) rfl ?_
            refine K_nil ?_
            refine Q_then ?_
            refine K_region ?_
            refine KV (R_fieldAddr 3 fd50_3 rfl) rfl ?_
            refine KV (R_loadO ty25 0 rfl rfl rfl rfl (fun _ => rfl) rfl) rfl ?_
            refine KV (R_move rfl) rfl ?_
            refine KV (R_fieldAddr 1 fd50_1 rfl) rfl ?_
            refine KV (R_loadO ty3 7 rfl rfl rfl rfl (fun _ => rfl) rfl) rfl ?_
            refine KV (R_add rfl rfl (by omega)) rfl ?_
            refine KA (A_buildSlice (vs := [.int .i64 ((sortI b.final)[k] + a.states)]) sl25 ty3 z3 rfl rfl (by simp [Value.cells]) (by simp) rfl (by decide)) rfl fun b94 => ?_
            refine K_append1 4 ap25 rfl rfl rfl rfl rfl rfl ⟨by omega, by omega⟩ rfl fun a95 k95 hn95 => ?_
            refine KV (R_fieldAddr 3 fd50_3 rfl) rfl ?_
            refine K_store ty25 1 rfl rfl rfl rfl rfl rfl ?_
            refine K_nil ?_
            refine Q_block ?_
            refine Q_then ?_
            refine K_region ?_
            refine KV (R_add rfl rfl (by omega)) rfl ?_
            refine KV (R_move rfl) rfl ?_
            refine K_nil ?_
            refine KQ_sel [1, 1, 1, 1, 0, 0, 0, 0] rfl ?_
            have hM1 : sortI a.final ++ ((sortI b.final).take (k + 1)).map (· + a.states) = (sortI a.final ++ ((sortI b.final).take k).map (· + a.states)) ++ [(sortI b.final)[k] + a.states] := by rw [List.take_succ_eq_append_getElem hk', List.map_append, ← List.append_assoc]; rfl
            refine Q_nextD (k + 1, .slice a95 ((sortI a.final).length + k + 1) k95) ⟨hk', _, _, rfl⟩ (by (try dsimp only); omega) ⟨rfl, trivial⟩ rfl (by dsimp only [List.set]; rw [hM1, ints_append _ [_]]; rfl) rfl
          ·
            have hk' : k = (sortI b.final).length := by omega
            rw [hk', List.take_length]
            refine K_exit ?_
            refine Q_then_exit ?_
            refine Q_then_exit ?_
            refine Q_block_exit ?_
            refine Q_then ?_
            refine K_seq ?_
            refine KC_front 3 rfl ?_
            try dsimp only [List.eraseIdx]
            refine KC_pubrow rfl fun V7 hv7 hrowA => ?_
            skip
            refine KC_front 3 rfl ?_
            try dsimp only [List.eraseIdx]
            refine KC_pubrow rfl fun V8 hv8 hfinA => ?_
            skip
            refine KC_front 2 rfl ?_
            try dsimp only [List.eraseIdx]
            try simp only [List.take_length, List.drop_length, List.append_nil]
            refine KC_pubmany (sh_bound hoA hoB habB hpsB) fun V9 hv9 hrvB => ?_
            skip
            try simp only [List.take_length] at hrowA hfinA
            have hI := repAu_uni hoA hoB habA hpsA hpsB (hRA.mono (hv3.trans (hv4.trans (hv5.trans (hv6.trans (hv7.trans (hv8.trans hv9))))))) ha.rl (hrowA.sl.mono (hv8.trans hv9)) (fun p h => (hrA p h).mono (hv5.trans (hv6.trans (hv7.trans (hv8.trans hv9))))) hrvB (hfinA.sl.mono hv9) hu hafl (by omega)
            refine K_region ?_
            refine KV (R_loadW ty50 0 rfl rfl rfl rfl) rfl ?_
            refine K_call c2045 rfl rfl (sortedS_spec ⟨a.ranks, a.states + b.states, sortO a.rules ++ (sortO b.rules).map (shR a.states), sortI a.final ++ (sortI b.final).map (· + a.states)⟩ _ _ _ V9 hI) ?_
            rintro _ VS hvS ⟨s1, s2, s3, rfl, hS⟩
            rw [uni_norm] at hS
            obtain ⟨sr, src, rfl⟩ := hS.r.shape
            obtain ⟨sf, sfc, rfl⟩ := hS.f.shape
            obtain ⟨su, suc, rfl⟩ := hS.ushape
            refine K_storeW ty50 2 rfl rfl rfl rfl rfl rfl rfl ?_
            refine KV (R_assign rfl) rfl ?_
            refine K_nil ?_
            refine Q_then ?_
            refine K_ret ?_
            refine results_gen (rs := [.cell 4 37, .tmp 5]) (vs := [_, _]) rfl ⟨⟨_, _, _, _, _, _, 2, rfl, rfl, ty50, (fun e => by cases e), rfl, rfl⟩, ⟨rfl, trivial⟩⟩ ?_
            rw [hte0, errAu_ok rfl]
            exact ⟨_, _, _, rfl, hS⟩
end Go.Proofs.X
