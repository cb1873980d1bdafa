/-
  Part of the proof: rules for walks, contracts of the functions that the statements reach, plain laws. Own work. No statement of the seat is proved here.
-/
import Derived.Test.YtknnjemehafecaaGreatPart4
import Derived.Test.YtknnjemehafecaaGreatPart1
import Derived.ChangeArms
import Derived.ChangeSame
import Derived.WideKeyArgs
import Derived.Lib.LaidTab
namespace Go.Proofs.X
open Go Pal Go.Proofs
attribute [local irreducible] Pal.KO Pal.KC Pal.KQ Pal.KD
theorem c40 : callable Tryz.prog F40 = true := by kernel_rfl
theorem c2146 : callable Tryz.prog F2146 = true := by kernel_rfl
theorem c2221 : callable Tryz.prog F2221 = true := by kernel_rfl
set_option maxRecDepth 20000 in
set_option maxHeartbeats 2000000 in
theorem complement_law (d : Dt) (hb : d.ranks.length ≤ 1048576 ∧ d.acc.length ≤ 1048576 ∧ d.to.length ≤ 1048576 ∧ ∀ x ∈ d.to, x.length ≤ 1048576) (size : Int) (v1 v2 v3 : Value) (H : View) (hd : RepDt H d v1 v2 v3) : Sat Tryz.prog F2212 #[.agg #[v1, v2, v3], .int .i64 size] H (fun r _ => r = .bool true) := by
  obtain ⟨kk, hk4, hkk⟩ := mod5 size
  obtain ⟨ua1, uc1x, rfl⟩ := hd.r.shape
  obtain ⟨ua2, uc2x, rfl⟩ := hd.a.shape
  obtain ⟨ua3, uc3x, rfl⟩ := hd.t.shape
  refine enterO (n := 100) (args := [.agg #[.slice ua1 d.ranks.length uc1x, .slice ua2 d.acc.length uc2x, .slice ua3 d.to.length uc3x], .int .i64 size]) Tryz.func4 rfl rfl rfl fun w0 => ?_
  refine K_seq ?_
  refine K_region ?_
  refine KA (A_box rfl) rfl fun b2 => ?_
  refine KV (R_assign rfl) rfl ?_
  refine K_nil ?_
  refine Q_then ?_
  refine K_seq ?_
  refine K_seq ?_
  refine K_region ?_
  refine K_call c2145 rfl rfl (known36_spec H) ?_
  rintro _ V1 hv1 rfl
  refine KV (R_not rfl) rfl ?_
  refine K_nil ?_
  refine Q_then ?_
  refine K_ifB rfl (fun h16 => ?_) (fun h16 => ?_)
  ·
    cases h16
  ·
    refine K_skip ?_
    refine Q_then ?_
    refine K_seq ?_
    refine K_region ?_
    refine KV (R_move rfl) rfl ?_
    refine KV (R_convII (k := .u64) (r := IntKind.u64.wrap size) (by kernel_rfl) ⟨_, Tryz.underlying3⟩ rfl rfl) rfl ?_
    refine KV (R_rem rfl rfl (by decide)) rfl ?_
    refine KV (R_convII (by kernel_rfl) ⟨_, Tryz.underlying55⟩ rfl hkk) rfl ?_
    refine KV (R_add rfl rfl (by omega)) rfl ?_
    refine KV (R_assign rfl) rfl ?_
    refine K_nil ?_
    rw [show (1 : Int) + (kk : Int) = ((kk + 1 : Nat) : Int) by omega]
    refine Q_then ?_
    refine K_seq ?_
    refine K_seq ?_
    refine K_region ?_
    refine KV (R_loadW ty2129 0 rfl rfl rfl rfl) rfl ?_
    refine K_call c2146 rfl rfl (fine_spec d hb _ _ _ V1 (hd.mono hv1)) ?_
    rintro _ V2 hv2 ⟨b23, rfl, hfine⟩
    refine KV (R_not rfl) rfl ?_
    refine KV (R_move rfl) rfl ?_
    refine K_splitB ?_ ?_
    ·
      intro h25
      refine K_gno rfl rfl rfl rfl ?_
      refine K_gno rfl rfl rfl rfl ?_
      refine K_gno rfl rfl rfl rfl ?_
      refine K_gno rfl rfl rfl rfl ?_
      refine KV (R_pickT rfl rfl) rfl ?_
      refine K_nil ?_
      refine Q_then ?_
      refine K_ifT rfl ?_
      refine K_seq ?_
      refine K_region ?_
      refine KV (R_assign rfl) rfl ?_
      refine K_nil ?_
      refine Q_then ?_
      refine K_ret ?_
      refine Q_then_ret ?_
      refine results_gen (rs := [.tmp 4]) (vs := [_]) rfl ⟨rfl, trivial⟩ ?_
      rfl
    ·
      intro h25
      obtain ⟨hn4, hr6, hde⟩ := hfine (by simpa using h25)
      have hok := DtOk.of hde
      refine K_gyes rfl rfl ?_
      refine KV (R_fieldAddr 0 fd2129_0 rfl) rfl ?_
      refine K_gyes rfl rfl ?_
      refine KV (R_loadO ty25 0 rfl rfl rfl rfl (fun _ => rfl) rfl) rfl ?_
      refine K_gyes rfl rfl ?_
      refine KV (R_len sl25 rfl) rfl ?_
      refine K_gyes rfl rfl ?_
      refine KV (R_cmp rfl rfl rfl) rfl ?_
      refine KV (R_pickF rfl rfl) rfl ?_
      refine K_nil ?_
      refine Q_then ?_
      refine K_if rfl (fun h30 => ?_) (fun h30 => ?_)
      ·
        refine K_seq ?_
        refine K_region ?_
        refine KV (R_assign rfl) rfl ?_
        refine K_nil ?_
        refine Q_then ?_
        refine K_ret ?_
        refine Q_then_ret ?_
        refine results_gen (rs := [.tmp 4]) (vs := [_]) rfl ⟨rfl, trivial⟩ ?_
        rfl
      ·
        have h4 : d.ranks.length ≤ 4 := by omega
        refine K_skip ?_
        refine Q_then ?_
        refine K_seq ?_
        refine K_region ?_
        refine KV (R_fieldAddr 0 fd2129_0 rfl) rfl ?_
        refine KV (R_loadO ty25 0 rfl rfl rfl rfl (fun _ => rfl) rfl) rfl ?_
        refine KV (R_move rfl) rfl ?_
        refine K_call c2220 rfl rfl (sized_spec d.ranks h4 (ranksErr_ok hok.rk).2 _ 5 (kk + 1) V2 (by omega) (by omega) (Nat.le_refl _) (hd.mono (hv1.trans (hv2))).r) ?_
        rintro _ V3 hv3 ⟨la, lc, cells, rfl, lS, lL⟩
        refine KV (R_assign rfl) rfl ?_
        refine K_nil ?_
        refine Q_then ?_
        refine K_seq ?_
        refine K_seq ?_
        refine K_region ?_
        refine KV (R_move rfl) rfl ?_
        refine KV (R_len sl22 rfl) rfl ?_
        refine KV (R_cmp rfl rfl rfl) rfl ?_
        refine K_nil ?_
        refine Q_then ?_
        refine K_if rfl (fun h37 => ?_) (fun h37 => ?_)
        ·
          refine K_seq ?_
          refine K_region ?_
          refine KV (R_assign rfl) rfl ?_
          refine K_nil ?_
          refine Q_then ?_
          refine K_ret ?_
          refine Q_then_ret ?_
          refine results_gen (rs := [.tmp 4]) (vs := [_]) rfl ⟨rfl, trivial⟩ ?_
          rfl
        ·
          refine K_skip ?_
          refine Q_then ?_
          refine K_seq ?_
          refine K_region ?_
          refine KV (R_assign rfl) rfl ?_
          refine K_nil ?_
          refine Q_then ?_
          refine K_seq ?_
          refine K_seq ?_
          refine K_region ?_
          refine KV (R_assign rfl) rfl ?_
          refine K_nil ?_
          refine Q_then ?_
          refine K_block ?_
          refine K_loopD (G := Nat × View) [7, 8, 38, 39, 40, 41, 42, 43, 44, 45, 46, 47, 48, 49, 50, 51, 52, 53] (fun g => [(8, .int .i64 (g.1 : Int)), (7, .int .i64 ((((szT d.ranks (kk + 1)).take g.1).filter (fun t => d.acc.getD (Tr.run d t).toNat false)).length : Int))]) (fun hl g => hl) (fun g => g.2) (fun g => (g.1 ≤ (szT d.ranks (kk + 1)).length) ∧ (VLe V3 g.2)) (fun g => (szT d.ranks (kk + 1)).length - g.1) (0, V3) ⟨Nat.zero_le _, VLe.refl _⟩ ⟨rfl, rfl, trivial⟩ (by simp only [args0, Nat.reduceAdd, del, memN, beqN, Nat.reduceBEq, cond_true, cond_false]; rfl) rfl rfl ?_
          rintro ⟨k, V⟩ ⟨hk0, hV⟩
          dsimp only at hk0 hV
          dsimp only [List.set, List.cons_append, List.nil_append]
          refine K_seq ?_
          refine K_seq ?_
          refine K_region ?_
          refine KV (R_move rfl) rfl ?_
          refine KV (R_move rfl) rfl ?_
          refine KV (R_len sl22 rfl) rfl ?_
          refine KV (R_cmp rfl rfl rfl) rfl ?_
          refine K_nil ?_
          refine Q_then ?_
          refine K_if rfl (fun h41 => ?_) (fun h41 => ?_)
          ·
            have hk' : k < (szT d.ranks (kk + 1)).length := by omega
            obtain ⟨ub, uo, ucs, ue, ucl, uR, uA⟩ := (SlAt.mono lS hV).elem (lL.imp fun x cs h => h.mono hV) (i := k) hk' rfl
            cases ue
            obtain ⟨u0, u1, u2, u3, rfl⟩ := uR.shape
            have hus := (mem_szT (dt_ranks hok) (kk + 1) _ (List.getElem_mem hk')).1
            have hfl : (((szT d.ranks (kk + 1)).take k).filter (fun t => d.acc.getD (Tr.run d t).toNat false)).length ≤ k := Nat.le_trans (List.length_filter_le _ _) (by rw [List.length_take]; omega)
            refine K_skip ?_
            refine Q_then ?_
            refine K_seq ?_
            refine K_block ?_
            refine K_seq ?_
            refine K_regionD (fin := false) (R := [0, 2, 3, 4, 5, 1, 6, 7]) (by kernel_rfl) mixed (.cons_cons _ (List.nil_sublist _)) ?_
            refine D_val rfl rfl rfl (R_loadW ty2129 0 rfl rfl rfl rfl) ?_
            refine D_val rfl rfl rfl (R_move rfl) ?_
            refine D_val rfl rfl rfl (R_move rfl) ?_
            refine D_val rfl rfl rfl (R_indexN sl22 ty24 rfl rfl (by omega)) ?_
            refine D_val rfl rfl rfl (R_loadH ty24 rfl (uA) rfl (fun e => by cases e) rfl) ?_
            refine D_call rfl rfl c2148 rfl ⟨⟨0, rfl⟩, trivial⟩ (l36to_spec d hb _ _ _ V (hd.mono ((hv1.trans (hv2.trans (hv3))).trans hV))) ?_
            rintro _ U1 hu1 ⟨w1, w2, w3, rfl, hw⟩
            refine D_call rfl rfl c11 rfl ⟨⟨0, rfl⟩, trivial⟩ (tree_spec _ (szT d.ranks (kk + 1))[k] U1 _ (Nat.le_refl _) (by omega) (uR.mono hu1)) ?_
            rintro _ U2 hu2 ⟨es, rfl, hes⟩
            refine D_call rfl rfl c40 rfl ⟨⟨0, rfl⟩, trivial⟩ (daccepts_spec d _ _ _ (szT d.ranks (kk + 1))[k] U2 _ hb (by omega) (hw.mono hu2) hes) ?_
            rintro _ U3 hu3 rfl
            rw [acc_is hok hde (by omega) (List.getElem_mem hk')]
            refine D_done ?_
            refine Q_then ?_
            refine K_ifB rfl (fun h51 => ?_) (fun h51 => ?_)
            ·
              refine K_region ?_
              refine KV (R_move rfl) rfl ?_
              refine KV (R_add rfl rfl (by omega)) rfl ?_
              refine KV (R_assign rfl) rfl ?_
              refine K_nil ?_
              refine Q_block ?_
              refine Q_then ?_
              refine K_region ?_
              refine KV (R_move rfl) rfl ?_
              refine KV (R_add rfl rfl (by omega)) rfl ?_
              refine KV (R_assign rfl) rfl ?_
              refine K_nil ?_
              refine Q_nextD (k + 1, U3) ⟨hk', hV.trans (hu1.trans (hu2.trans hu3))⟩ (by (try dsimp only); omega) ⟨rfl, congrArg (fun z => some (Value.int .i64 z)) (by dsimp only; rw [filter_take hk', h51]; simp), trivial⟩ rfl rfl rfl
            ·
              refine K_skip ?_
              refine Q_block ?_
              refine Q_then ?_
              refine K_region ?_
              refine KV (R_move rfl) rfl ?_
              refine KV (R_add rfl rfl (by omega)) rfl ?_
              refine KV (R_assign rfl) rfl ?_
              refine K_nil ?_
              refine Q_nextD (k + 1, U3) ⟨hk', hV.trans (hu1.trans (hu2.trans hu3))⟩ (by (try dsimp only); omega) ⟨rfl, congrArg (fun z => some (Value.int .i64 z)) (by dsimp only; rw [filter_take hk', h51]; simp), trivial⟩ rfl rfl rfl
          ·
            have hk' : k = (szT d.ranks (kk + 1)).length := by omega
            subst hk'
            rw [List.take_length]
            have hfl : (((szT d.ranks (kk + 1)).filter (fun t => d.acc.getD (Tr.run d t).toNat false)).length) ≤ (szT d.ranks (kk + 1)).length := List.length_filter_le _ _
            have hsA : (((szT d.ranks (kk + 1)).filter (fun t => d.acc.getD (Tr.run d t).toNat false)).length) = sumA d (kk + 1) := sumA_sz hok (kk + 1)
            have hall := cmpl_all hok (kk + 1)
            have hbC : (cmplD d).ranks.length ≤ 1048576 ∧ (cmplD d).acc.length ≤ 1048576 ∧ (cmplD d).to.length ≤ 1048576 ∧ ∀ x ∈ (cmplD d).to, x.length ≤ 1048576 := ⟨hb.1, by rw [cmpl_len]; exact hb.2.1, hb.2.2.1, hb.2.2.2⟩
            refine K_exit ?_
            refine Q_then_exit ?_
            refine Q_then_exit ?_
            refine Q_block_exit ?_
            refine Q_then ?_
            refine K_seq ?_
            refine K_region ?_
            refine KV (R_loadW ty2129 0 rfl rfl rfl rfl) rfl ?_
            refine K_call c2148 rfl rfl (l36to_spec d hb _ _ _ V (hd.mono ((hv1.trans (hv2.trans (hv3))).trans hV))) ?_
            rintro _ V4 hv4 ⟨p1, p2, p3, rfl, hp⟩
            refine KV (R_move rfl) rfl ?_
            refine K_call c2147 rfl rfl (counttrees_spec d hb (by omega) (by omega) ((kk + 1 : Nat) : Int) _ _ _ V4 hp) ?_
            rintro _ V5 hv5 ⟨xa, xk, xc, rfl, hN⟩
            rw [count_ok hde (by omega)] at hN ⊢
            rw [if_pos rfl, Int.toNat_natCast] at hN
            refine KV (R_move rfl) rfl ?_
            refine KV (R_extract rfl rfl) rfl ?_
            refine KV (R_extract rfl rfl) rfl ?_
            refine KA (A_alloc z2009) rfl fun b9 => ?_
            refine K_storeW ty2009 0 rfl rfl rfl rfl rfl rfl rfl ?_
            refine KV (R_assign rfl) rfl ?_
            refine K_nil ?_
            refine Q_then ?_
            refine K_seq ?_
            refine K_region ?_
            refine KV (R_loadW ty2129 1 rfl rfl rfl rfl) rfl ?_
            refine K_call c2148 rfl rfl (l36to_spec d hb _ _ _ V5 (hd.mono ((hv1.trans (hv2.trans (hv3))).trans (hV.trans (hv4.trans (hv5)))))) ?_
            rintro _ V6 hv6 ⟨q1, q2, q3, rfl, hq⟩
            refine K_call c2221 rfl rfl (complement_spec d hb (by omega) _ _ _ V6 hq) ?_
            rintro _ V7 hv7 ⟨e1, e2, e3, rfl, hX⟩
            rw [if_neg (not_not_intro hde)] at hX
            rw [hde]
            obtain ⟨cca1, ccc1x, rfl⟩ := hX.r.shape
            obtain ⟨cca2, ccc2x, rfl⟩ := hX.a.shape
            obtain ⟨cca3, ccc3x, rfl⟩ := hX.t.shape
            refine KV (R_move rfl) rfl ?_
            refine KV (R_extract rfl rfl) rfl ?_
            refine KV (R_extract rfl rfl) rfl ?_
            refine KA (A_alloc z54) rfl fun b11 => ?_
            refine K_storeW ty54 0 rfl rfl rfl rfl rfl rfl rfl ?_
            refine KV (R_assign rfl) rfl ?_
            refine K_nil ?_
            refine Q_then ?_
            refine K_seq ?_
            refine K_region ?_
            refine KV (R_loadW ty54 0 rfl rfl rfl rfl) rfl ?_
            refine KV (R_move rfl) rfl ?_
            refine K_call c2147 rfl rfl (counttrees_spec (cmplD d) hbC (by show d.ranks.length ≤ 8; omega) (by rw [cmpl_len]; omega) ((kk + 1 : Nat) : Int) _ _ _ V7 hX) ?_
            rintro _ V8 hv8 ⟨ya, yk, yc, rfl, hM⟩
            rw [count_ok ((cmpl_err d).trans hde) (by omega)] at hM ⊢
            rw [if_pos rfl, Int.toNat_natCast] at hM
            refine KV (R_move rfl) rfl ?_
            refine KV (R_extract rfl rfl) rfl ?_
            refine KV (R_extract rfl rfl) rfl ?_
            refine KA (A_alloc z2009) rfl fun b13 => ?_
            refine K_storeW ty2009 0 rfl rfl rfl rfl rfl rfl rfl ?_
            refine KV (R_assign rfl) rfl ?_
            refine K_nil ?_
            refine Q_then ?_
            refine K_seq ?_
            refine K_regionD (fin := false) (R := [0, 1, 2, 3, 4, 5, 6, 7, 8, 9, 10, 11, 12, 13, 14, 15, 16, 17, 18, 19, 21, 22, 23, 20, 24, 25, 26, 27]) (by kernel_rfl) mixed (.cons_cons _ (.cons_cons _ (.cons_cons _ (.cons_cons _ (List.nil_sublist _))))) ?_
            refine D_val rfl rfl rfl (R_move rfl) ?_
            refine D_val rfl rfl rfl (R_cmp rfl rfl rfl) ?_
            refine D_val rfl rfl rfl (R_move rfl) ?_
            refine D_split ?_ ?_
            ·
              intro h75
              refine D_val rfl rfl rfl (R_move rfl) ?_
              refine D_val rfl rfl rfl (R_cmp rfl rfl rfl) ?_
              refine D_val rfl rfl rfl (R_pickT rfl rfl) ?_
              refine D_val rfl rfl rfl (R_move rfl) ?_
              refine D_split ?_ ?_
              ·
                intro h79
                refine D_val rfl rfl rfl (R_move rfl) ?_
                refine D_val rfl rfl rfl (R_cmp rfl rfl rfl) ?_
                refine D_val rfl rfl rfl (R_pickT rfl rfl) ?_
                refine D_val rfl rfl rfl (R_move rfl) ?_
                refine D_split ?_ ?_
                ·
                  intro h83
                  refine D_val rfl rfl rfl (R_loadW ty2009 2 rfl rfl rfl rfl) ?_
                  refine D_val rfl rfl rfl (R_move rfl) ?_
                  refine D_val rfl rfl rfl (R_convII (by kernel_rfl) ⟨_, Tryz.underlying3⟩ rfl (u64_nat (by omega))) ?_
                  refine D_call rfl rfl c2019 rfl ⟨⟨0, rfl⟩, ⟨1, rfl⟩, ⟨2, rfl⟩, ⟨3, rfl⟩, trivial⟩ (fromU_spec (((szT d.ranks (kk + 1)).filter (fun t => d.acc.getD (Tr.run d t).toNat false)).length) (by omega) V8) ?_
                  rintro _ V9 hv9 ⟨ma, mk, mc, rfl, hF⟩
                  refine D_call rfl rfl c2018 rfl ⟨⟨0, rfl⟩, ⟨1, rfl⟩, ⟨2, rfl⟩, ⟨3, rfl⟩, trivial⟩ (eqN_spec (sumA d (kk + 1)) (((szT d.ranks (kk + 1)).filter (fun t => d.acc.getD (Tr.run d t).toNat false)).length) _ _ V9 (hN.mono (hv6.trans (hv7.trans (hv8.trans (hv9))))) hF (by omega)) ?_
                  rintro _ V10 hv10 rfl
                  rw [decide_eq_true hsA.symm]
                  refine D_val rfl rfl rfl (R_pickT rfl rfl) ?_
                  refine D_val rfl rfl rfl (R_move rfl) ?_
                  refine D_splitB ?_ ?_
                  ·
                    intro h90
                    refine D_val rfl rfl rfl (R_loadW ty2009 2 rfl rfl rfl rfl) ?_
                    refine D_val rfl rfl rfl (R_loadW ty2009 0 rfl rfl rfl rfl) ?_
                    refine D_val rfl rfl rfl (R_move rfl) ?_
                    refine D_val rfl rfl rfl (R_len sl22 rfl) ?_
                    refine D_val rfl rfl rfl (R_convII (by kernel_rfl) ⟨_, Tryz.underlying3⟩ rfl (u64_nat (by omega))) ?_
                    refine D_call rfl rfl c2035 rfl ⟨⟨0, rfl⟩, ⟨1, rfl⟩, ⟨2, rfl⟩, ⟨3, rfl⟩, trivial⟩ (addNN_spec (sumA d (kk + 1)) (sumA (cmplD d) (kk + 1)) _ _ V10 (hN.mono (hv6.trans (hv7.trans (hv8.trans (hv9.trans (hv10)))))) (hM.mono (hv9.trans (hv10))) (sumA_big (by omega) (by omega) (by omega)) (sumA_big (by show d.ranks.length ≤ 8; omega) (by rw [cmpl_len]; omega) (by omega))) ?_
                    rintro _ V11 hv11 ⟨sa, sk, sc, rfl, hS⟩
                    refine D_call rfl rfl c2019 rfl ⟨⟨0, rfl⟩, ⟨1, rfl⟩, ⟨2, rfl⟩, ⟨3, rfl⟩, trivial⟩ (fromU_spec (szT d.ranks (kk + 1)).length (by omega) V11) ?_
                    rintro _ V12 hv12 ⟨na, nk, nc, rfl, hG⟩
                    refine D_call rfl rfl c2018 rfl ⟨⟨0, rfl⟩, ⟨1, rfl⟩, ⟨2, rfl⟩, ⟨3, rfl⟩, trivial⟩ (eqN_spec (sumA d (kk + 1) + sumA (cmplD d) (kk + 1)) (szT d.ranks (kk + 1)).length _ _ V12 (hS.mono hv12) hG (by omega)) ?_
                    rintro _ V13 hv13 rfl
                    rw [decide_eq_true hall]
                    refine D_val rfl rfl rfl (R_pickT rfl rfl) ?_
                    refine D_val rfl rfl rfl (R_assign rfl) ?_
                    refine D_done ?_
                    refine Q_then ?_
                    refine K_ret ?_
                    refine results_gen (rs := [.tmp 4]) (vs := [_]) rfl ⟨rfl, trivial⟩ ?_
                    rfl
                  ·
                    intro h90
                    exact absurd h90 (by decide)
                ·
                  intro h83
                  exact absurd (by decide) h83
              ·
                intro h79
                exact absurd (by decide) h79
            ·
              intro h75
              exact absurd (by decide) h75
end Go.Proofs.X

/-
  From the claims' reading of arguments to what the walks know: trees, slices of ints, the table; and the claims' end. Own work. No statement of the seat is proved here.
-/
namespace Pal
open Go Go.ChangeShapes Go.WideShapes Go.RowKit
section
variable {H : Type} {enc : TypeId × Value → H} {P : Program} {w : World} {sp : Nat → Bool} {held : Bool}

theorem mapM_get {α β : Type} {f : α → Option β} : ∀ {l : List α} {r : List β}, l.mapM f = some r → l.length = r.length ∧ ∀ (i : Nat) (a : α), l[i]? = some a → f a = r[i]?
  | [], r, h => by simp at h; subst h; exact ⟨rfl, fun i a ha => by simp at ha⟩
  | x :: l, r, h => by
    simp only [List.mapM_cons, Option.bind_eq_bind, Option.bind_eq_some_iff, Option.pure_def, Option.some.injEq] at h
    obtain ⟨y, hy, ys, hys, rfl⟩ := h
    obtain ⟨h1, h2⟩ := mapM_get hys
    refine ⟨by simp [h1], fun i a ha => ?_⟩
    cases i with
    | zero => simp at ha; subst ha; simpa using hy
    | succ i => simp at ha; simpa using h2 i a ha
theorem cells_at {a : Addr} {n : Nat} {cs : List Value} (hn : 0 < n) (h : w.cells? 0 a n = some cs) : a = ⟨a.block, a.off, none⟩ ∧ cs.length = n ∧ At (heapOf w) a.block a.off cs := by
  unfold World.cells? at h
  rw [if_pos (Nat.zero_le _)] at h
  obtain ⟨h1, h2⟩ := mapM_get h
  have hlen : cs.length = n := by simpa using h1.symm
  have hget : ∀ i, i < n → w.cell? (a.add i) = cs[i]? := fun i hi => h2 i i (by simp [hi])
  obtain ⟨b, off, spot⟩ := a
  have h0 := hget 0 hn
  have hsome : ∃ v, cs[0]? = some v := ⟨cs[0], by simp⟩
  obtain ⟨v0, hv0⟩ := hsome
  have h0' : w.cell? ⟨b, off, spot⟩ = some v0 := by rw [← hv0]; simpa [Addr.add] using h0
  unfold World.cell? at h0'
  simp only at h0'
  split at h0'
  · rename_i c T fz hb
    cases spot with
    | some s => simp at h0'
    | none =>
      refine ⟨rfl, hlen, c, T, fz, hb, fun j v hj => ?_⟩
      have hjn : j < n := by rw [← hlen]; exact (List.getElem?_eq_some_iff.1 hj).1
      have := hget j hjn
      rw [addr_add, hj] at this
      simpa [World.cell?, hb] using this
  · cases h0'
theorem i64_of_wf {n : Int} (h : (Lit.int .i64 n).wf = true) : i64ok n := by
  simp [Lit.wf, IntKind.min, IntKind.max, IntKind.bits, IntKind.signed] at h
  simp only [i64ok]
  omega
theorem read_int {t : TypeId} {fuel : Nat} {cs : List Value} {x : DataW H × List MemPlace} (ht : P.underlying t = some (.int .i64)) (h : DataW.trod enc P w 0 sp held fuel t cs = some x) : ∃ n, cs = [.int .i64 n] ∧ i64ok n := by
  obtain ⟨n, h1, _, h3⟩ := DataW.trod_int ht h
  exact ⟨n, h1, i64_of_wf h3⟩
/-- A slice whose elements have sz cells. -/
theorem read_slice {t e : TypeId} {sz fuel : Nat} {cs : List Value} {x : DataW H × List MemPlace} (ht : P.underlying t = some (.slice e)) (hce : P.cellsOf e = sz) (hsz : 0 < sz) (h : DataW.trod enc P w 0 sp held fuel t cs = some x) :
    ∃ (a : Option Addr) (len cap b off : Nat) (elems rest : List (DataW H × List MemPlace)) (rc : Nat → List Value), cs = [.slice a len cap] ∧ elems.length = len ∧ (0 < len → a = some ⟨b, off, none⟩) ∧
      (x.1 = .nil ∧ len = 0 ∨ x.1 = .slice (elems.map (·.1)) (rest.map (·.1))) ∧
      ∀ i (hi : i < elems.length), (rc i).length = sz ∧ At (heapOf w) b (off + i * sz) (rc i) ∧ ∃ m, m < fuel ∧ DataW.trod enc P w 0 sp held m e (rc i) = some elems[i] := by
  subst hce
  rcases DataW.trod_slice ht h with ⟨rfl, rfl⟩ | ⟨a, len, cap, elems, rest, n, rfl, rfl, rfl, _, _, _, hlen, hel, _⟩
  · exact ⟨none, 0, 0, 0, 0, [], [], fun _ => [], rfl, rfl, fun h => absurd h (Nat.lt_irrefl _), .inl ⟨rfl, rfl⟩, fun i hi => absurd hi (Nat.not_lt_zero _)⟩
  · have hget : ∀ i (hi : i < elems.length), ∃ ci, w.cells? 0 (a.add (i * P.cellsOf e)) (P.cellsOf e) = some ci ∧ DataW.trod enc P w 0 sp held n e ci = some elems[i] := by
      intro i hi
      have := hel i (hlen ▸ hi)
      rw [List.getElem?_eq_getElem hi] at this
      exact Option.bind_eq_some_iff.1 this
    have hspot : 0 < len → a = ⟨a.block, a.off, none⟩ := by
      intro h0
      obtain ⟨ci, h1, _⟩ := hget 0 (hlen ▸ h0)
      have := (cells_at hsz h1).1
      simpa [Addr.add] using this
    refine ⟨some a, len, cap, a.block, a.off, elems, rest, fun i => (w.cells? 0 (a.add (i * P.cellsOf e)) (P.cellsOf e)).getD [], rfl, hlen, fun h0 => congrArg some (hspot h0), .inr rfl, fun i hi => ?_⟩
    obtain ⟨ci, h1, h2⟩ := hget i hi
    have ha := hspot (by omega)
    simp only [h1, Option.getD_some]
    obtain ⟨_, h4, h5⟩ := cells_at hsz h1
    rw [ha, addr_add] at h5
    exact ⟨h4, h5, n, Nat.lt_succ_self n, h2⟩
theorem At.join {Hv : View} {b off sz : Nat} : ∀ {n : Nat} {rc : Nat → List Value}, 0 < sz → 0 < n → (∀ i, i < n → (rc i).length = sz ∧ At Hv b (off + i * sz) (rc i)) → At Hv b off ((List.range n).flatMap rc) := by
  intro n rc hsz hn h
  obtain ⟨h1, cs, T, fz, hb, h2⟩ := h 0 hn
  refine ⟨cs, T, fz, hb, ?_⟩
  clear h2 h1
  induction n with
  | zero => omega
  | succ n ih =>
    intro j v hj
    rw [List.range_succ, List.flatMap_append] at hj
    have hl : ∀ m, m ≤ n + 1 → ((List.range m).flatMap rc).length = m * sz := by
      intro m hm
      induction m with
      | zero => simp
      | succ m ihm =>
        rw [List.range_succ, List.flatMap_append, List.length_append, ihm (by omega)]
        simp [(h m (by omega)).1, Nat.add_mul]
    have hln := hl n (by omega)
    by_cases hjn : j < n * sz
    · rw [List.getElem?_append_left (by omega)] at hj
      rcases Nat.eq_zero_or_pos n with e | e
      · subst e; simp at hjn
      · exact ih e (fun i hi => h i (by omega)) j v hj
    · rw [List.getElem?_append_right (by omega), hln] at hj
      obtain ⟨_, cs2, T2, fz2, hb2, h4⟩ := h n (by omega)
      rw [hb] at hb2
      cases hb2
      have := h4 (j - n * sz) v (by simpa using hj)
      rw [show off + n * sz + (j - n * sz) = off + j by omega] at this
      exact this
/-- What a measure of readings owes (the rows' own 'uptoBulk'). -/
structure Bulk (f : DataW H → Nat) (g : List (DataW H) → Nat) : Prop where
  agg : ∀ ps, f (.agg ps) = g ps + 1
  sl : ∀ es rs, f (.slice es rs) = g es + g rs + 1
  nil : g [] = 0
  cons : ∀ d r, g (d :: r) = f d + g r
theorem Bulk.sizes {f : DataW H → Nat} {g : List (DataW H) → Nat} (hB : Bulk f g) : ∀ {ts : List Tr} {es : List (DataW H × List MemPlace)}, ts.length = es.length → (∀ i (h : i < ts.length) (h2 : i < es.length), ts[i].size ≤ f es[i].1) → Tr.sizes ts ≤ g (es.map (·.1))
  | [], [], _, _ => by simp [Tr.sizes]
  | t :: ts, e :: es, hl, h => by
    have h0 := h 0 (by simp) (by simp)
    have ih := Bulk.sizes hB (ts := ts) (es := es) (by simpa using hl) (fun i h1 h2 => h (i + 1) (Nat.succ_lt_succ h1) (Nat.succ_lt_succ h2))
    simp only [List.getElem_cons_zero] at h0
    simp only [Tr.sizes, List.map_cons, hB.cons]
    omega
  | [], _ :: _, hl, _ => by simp at hl
  | _ :: _, [], hl, _ => by simp at hl
/-- Arguments read behind a call asx they read before, where no old block was turned. -/
theorem trodAll_stays {W W' : World} (hl : laidOutB P = true) (hsame : ∀ b, b < W.heap.size → W'.heap[b]? = W.heap[b]?) {sp' : Nat → Bool} : ∀ {ts : List TypeId} {vs : List Value} {ds : List (DataW H)} {ps : List MemPlace},
    (∀ t ∈ ts, P.readableRec t = true ∧ t < P.types.size) → DataW.TrodAll enc P W 0 (fun _ => true) true ts vs ds ps → (∀ p ∈ ps, p.block < W.heap.size) → (∀ p ∈ ps, sp' p.block = true) → DataW.TrodAll enc P W' 0 sp' true ts vs ds ps
  | [], [], [], _, _, h, _, _ => h
  | t :: ts, v :: vs, d :: ds, ps, ht, h, hlt, hsp => by
    obtain ⟨p, q, h1, h2, rfl⟩ := h
    obtain ⟨hr, hrow⟩ := ht t (by simp)
    refine ⟨p, q, WideElems.Trod_stays hl hr hrow h1 (fun x hx => ?_) (fun x hx => hsp x (List.mem_append_left _ hx)), trodAll_stays hl hsame (fun t ht' => ht t (by simp [ht'])) h2 (fun x hx => hlt x (List.mem_append_right _ hx)) (fun x hx => hsp x (List.mem_append_right _ hx)), rfl⟩
    have hb := hlt x (List.mem_append_left _ hx)
    cases x with
    | cell b off =>
      have := hsame b hb
      simp [World.sameAt, World.cell?, this]
    | map b => exact hsame b hb
  | [], _ :: _, _, _, _, h, _, _ => by simp [DataW.TrodAll] at h
  | [], [], _ :: _, _, _, h, _, _ => by simp [DataW.TrodAll] at h
  | _ :: _, [], _, _, _, h, _, _ => by simp [DataW.TrodAll] at h
  | _ :: _, _ :: _, [], _, _, h, _, _ => by simp [DataW.TrodAll] at h
/-- 'It returns true; the input reads asx it did.' -/
theorem true_post {fn : Func} {s : ChangeSpec} {apart fresh handsOn again : Bool} {W W' : World} {args : Array Value} {ds gs : List (DataW H)} {before : List MemPlace} {tb : TypeId} {Hv Hv' : View} {hl' : HL}
    (hl : laidOutB P = true) (hpar : ∀ t ∈ fn.params.toList, P.readableRec t = true ∧ t < P.types.size) (hrt : fn.resultTypes = #[tb]) (hu : P.underlying tb = some .bool) (hvs : s.vars = [])
    (hfn : s.fn H ds = { results := [.lit (.bool true)], args := ds }) (hW : DataW.Whole enc P fn.params.toList s.vars apart W args.toList ds gs before) (hok : Ok ⟨W, Hv, []⟩ W' Hv' hl') :
    s.post enc P fn apart fresh handsOn again W args (.bool true) W' := by
  have hsame : ∀ b, b < W.heap.size → W'.heap[b]? = W.heap[b]? := fun b hb => hok.old b hb (by simp)
  have hlt := hW.lt
  obtain ⟨pa, pv, hA, hV, hps, hz, hn⟩ := id hW
  rw [hvs] at hV
  obtain ⟨hgs, hpv⟩ := trodVars_none hV
  subst hgs
  subst hpv
  rw [List.append_nil] at hps
  subst hps
  have hfn' : s.fn H (ds ++ []) = { results := [.lit (.bool true)], args := ds } := by rw [List.append_nil]; exact hfn
  have hres : ∀ (b : Nat) (sp : Nat → Bool) (hd : Bool), DataW.TrodAll enc P W' b sp hd fn.resultTypes.toList ((Value.bool true).resultList fn.resultTypes.size) (s.fn H (ds ++ [])).results [] := by
    intro b sp hd
    rw [hfn', hrt]
    exact trodAll_mk1 ⟨1, by simp [DataW.trod, Value.cells, hu]⟩
  have hargs : ∀ sp : Nat → Bool, (∀ p ∈ before, sp p.block = true) → DataW.TrodAll enc P W' 0 sp true fn.params.toList args.toList (s.fn H (ds ++ [])).args before := by
    intro sp hsp
    rw [hfn']
    exact trodAll_stays hl hsame hpar hA hlt hsp
  have hvars : ∀ sp : Nat → Bool, DataW.TrodVars enc P W' sp s.vars (s.fn H (ds ++ [])).vars [] := by
    intro sp
    rw [hfn', hvs]
    rfl
  have hk : ∀ may : MemPlace → Prop, W.keptBut W' may := by
    intro may
    refine ⟨hok.os, hok.output, fun i hi => ?_⟩
    rw [hsame i hi]
    cases hw : W.heap[i]? with
    | none => rfl
    | some o => cases o <;> simp
  have hold : ∀ p ∈ before, (fun b => decide (b < W.heap.size)) p.block = true := fun p hp => by simpa using hlt p hp
  have hfz : ∀ b off, MemPlace.cell b off ∈ before → W'.frozen? ⟨b, off, none⟩ = false := by
    intro b off hp
    rw [← hz b off hp]
    simp [World.frozen?, hsame b (hlt _ hp)]
  refine ⟨ds, [], before, [], before, [], hW, hres _ _ _, hargs _ hold, hvars _, hk _, fun _ => ⟨ok_one hrt rfl (okWide_bool_mk hu true), _, _, ([] ++ before) ++ [], ⟨[] ++ before, [], trodAll_append (hargs _ (fun _ _ => rfl)) (hres _ _ _), hvars _, rfl, ?_, ?_⟩, ?_⟩⟩
  · intro b off hp
    exact hfz b off (by simpa using hp)
  · intro ha
    have := hn ha
    simpa using this
  · intro p hp _
    simpa using hp
end
end Pal

/-
  Reading arguments, by their types: slices, rules, automata. Own work. No statement of the seat is proved here.
-/
namespace Pal
open Go Go.ChangeShapes Go.WideShapes Go.RowKit
section
variable {H : Type} {enc : TypeId × Value → H} {P : Program} {w : World} {sp : Nat → Bool} {held : Bool}
/-- Every reading at type t is of some y, laid asx R says, and no greater than B says of the reading's measure. -/
def RdAt {α : Type} (enc : TypeId × Value → H) (P : Program) (w : World) (sp : Nat → Bool) (held : Bool) (f : DataW H → Nat) (t : TypeId) (R : α → List Value → Prop) (B : α → Nat → Prop) : Prop :=
  ∀ (fuel : Nat) (cs : List Value) (x : DataW H × List MemPlace), DataW.trod enc P w 0 sp held fuel t cs = some x → ∃ y, R y cs ∧ B y (f x.1)
structure Bulk1 (f : DataW H → Nat) (g : List (DataW H) → Nat) : Prop where
  b : Bulk f g
  pos : ∀ d, 1 ≤ f d
theorem Bulk1.len {f : DataW H → Nat} {g : List (DataW H) → Nat} (hB : Bulk1 f g) : ∀ ds : List (DataW H), ds.length ≤ g ds
  | [] => by simp
  | d :: r => by have := hB.len r; have := hB.pos d; rw [hB.b.cons, List.length_cons]; omega
theorem Bulk1.mem {f : DataW H → Nat} {g : List (DataW H) → Nat} (hB : Bulk1 f g) : ∀ {ds : List (DataW H)} {d : DataW H}, d ∈ ds → f d ≤ g ds
  | [], _, h => by cases h
  | e :: r, d, h => by
    rw [hB.b.cons]
    rcases List.mem_cons.1 h with rfl | h
    · omega
    · have := hB.mem h; omega
theorem rd_int {f : DataW H → Nat} {t : TypeId} (ht : P.underlying t = some (.int .i64)) : RdAt enc P w sp held f t RI (fun _ _ => True) := by
  intro fuel cs x h
  obtain ⟨n, h1, h2⟩ := read_int ht h
  exact ⟨n, ⟨h2, h1⟩, trivial⟩
theorem rd_bool {f : DataW H → Nat} {t : TypeId} (ht : P.underlying t = some .bool) : RdAt enc P w sp held f t RB (fun _ _ => True) := by
  intro fuel cs x h
  obtain ⟨b, h1, _⟩ := DataW.trod_bool ht h
  exact ⟨b, h1, trivial⟩
def RSl {α : Type} (Hv : View) (R : α → List Value → Prop) (sz : Nat) (xs : List α) (cs : List Value) : Prop := ∃ v cells, cs = [v] ∧ SlAt Hv v xs.length cells ∧ RepL R sz xs cells
def BSl {α : Type} (B : α → Nat → Prop) (xs : List α) (n : Nat) : Prop := xs.length ≤ n ∧ ∀ x ∈ xs, B x n
theorem repL_range {α : Type} {R : α → List Value → Prop} {sz : Nat} {T : Nat → α} {rc : Nat → List Value} : ∀ {n : Nat}, (∀ i, i < n → R (T i) (rc i) ∧ (rc i).length = sz) → RepL R sz ((List.range n).map T) ((List.range n).flatMap rc)
  | 0, _ => .nil
  | n + 1, h => by
    rw [range_map_succ, List.range_succ, List.flatMap_append]
    simp only [List.flatMap_cons, List.flatMap_nil, List.append_nil]
    exact (repL_range fun i hi => h i (by omega)).snoc (h n (by omega)).1 (h n (by omega)).2
theorem rd_slice {α : Type} [Inhabited α] {f : DataW H → Nat} {g : List (DataW H) → Nat} (hB : Bulk1 f g) {t e : TypeId} {sz : Nat} {R : α → List Value → Prop} {B : α → Nat → Prop} (hm : ∀ y n m, n ≤ m → B y n → B y m) (ht : P.underlying t = some (.slice e)) (hce : P.cellsOf e = sz) (hsz : 0 < sz)
    (hR : RdAt enc P w sp held f e R B) : RdAt enc P w sp held f t (RSl (heapOf w) R sz) (BSl B) := by
  intro fuel cs x h
  obtain ⟨a, len, cap, b, off, elems, rest, rc, rfl, hlen, ha, hx, hel⟩ := read_slice ht hce hsz h
  have hsub : ∀ i (hi : i < elems.length), ∃ y, R y (rc i) ∧ B y (f elems[i].1) := by
    intro i hi
    obtain ⟨_, _, m, _, h3⟩ := hel i hi
    exact hR m _ _ h3
  let T : Nat → α := fun i => if h : i < elems.length then Classical.choose (hsub i h) else default
  have hT : ∀ i (hi : i < elems.length), R (T i) (rc i) ∧ B (T i) (f elems[i].1) := by
    intro i hi
    simp only [T, hi, dif_pos]
    exact Classical.choose_spec (hsub i hi)
  refine ⟨(List.range len).map T, ⟨_, (List.range len).flatMap rc, rfl, ⟨a, cap, by simp, ?_⟩, repL_range fun i hi => ⟨(hT i (by omega)).1, (hel i (by omega)).1⟩⟩, ?_, ?_⟩
  · rcases Nat.eq_zero_or_pos len with h0 | h0
    · subst h0; exact .inl ⟨by simp, by simp⟩
    · exact .inr ⟨b, off, ha h0, At.join hsz h0 fun i hi => ⟨(hel i (by omega)).1, (hel i (by omega)).2.1⟩⟩
  · rw [List.length_map, List.length_range]
    rcases hx with ⟨_, h0⟩ | hx
    · omega
    · rw [hx, hB.b.sl]
      have := hB.len (elems.map (·.1))
      rw [List.length_map] at this
      omega
  · intro y hy
    obtain ⟨i, hi, rfl⟩ := List.mem_map.1 hy
    have hi' := List.mem_range.1 hi
    refine hm _ _ _ ?_ (hT i (by omega)).2
    rcases hx with ⟨_, h0⟩ | hx
    · omega
    · rw [hx, hB.b.sl]
      have := hB.mem (List.mem_map_of_mem (f := fun (p : DataW H × List MemPlace) => p.1) (List.getElem_mem (show i < elems.length by omega)))
      omega
/-- A struct's fields, each at its own place, one cell each. -/
def FldT (P : Program) (fd : Field) (t : TypeId) (o : Nat) : Prop := fd.type = t ∧ fd.offset = o
theorem RSl.si {Hv : View} {xs : List Int} {cs : List Value} (h : RSl Hv RI 1 xs cs) : ∃ v, cs = [v] ∧ SI Hv v xs := by
  obtain ⟨v, cells, rfl, h1, h2⟩ := h
  obtain ⟨rfl, h3⟩ := h2.eq_ints
  exact ⟨v, rfl, h1, h3⟩
theorem RepL.eq_bools {xs : List Bool} {cells : List Value} (h : RepL RB 1 xs cells) : cells = bools xs := by
  induction h with
  | nil => rfl
  | cons h _ _ ih => rw [h, ih]; rfl
theorem RSl.sb {Hv : View} {xs : List Bool} {cs : List Value} (h : RSl Hv RB 1 xs cs) : ∃ v, cs = [v] ∧ SB Hv v xs := by
  obtain ⟨v, cells, rfl, h1, h2⟩ := h
  have := h2.eq_bools
  subst this
  exact ⟨v, rfl, h1⟩
theorem RSl.ssi {Hv : View} {xss : List (List Int)} {cs : List Value} (h : RSl Hv (RSl Hv RI 1) 1 xss cs) : ∃ v, cs = [v] ∧ SSI Hv v xss := by
  obtain ⟨v, cells, rfl, h1, h2⟩ := h
  exact ⟨v, rfl, cells, h1, h2.imp fun xs cs hx => by
    obtain ⟨u, h3, h4⟩ := hx.si
    exact ⟨u, h3, h4⟩⟩
instance : Inhabited Rl := ⟨⟨0, [], 0⟩⟩
/-- ranks, final, to -/
structure DtaT (P : Program) (t ts tb tss ti tbool : TypeId) : Prop where
  u : ∃ f1 f2 f3 : Field, P.underlying t = some (.struct #[f1, f2, f3]) ∧ FldT P f1 ts 0 ∧ FldT P f2 tb 1 ∧ FldT P f3 tss 2
  us : P.underlying ts = some (.slice ti)
  ub : P.underlying tb = some (.slice tbool)
  uss : P.underlying tss = some (.slice ts)
  ui : P.underlying ti = some (.int .i64)
  ubo : P.underlying tbool = some .bool
  ct : P.cellsOf t = 3
  cs : P.cellsOf ts = 1
  cb : P.cellsOf tb = 1
  css : P.cellsOf tss = 1
  ci : P.cellsOf ti = 1
  cbo : P.cellsOf tbool = 1
theorem rd_dta {f : DataW H → Nat} {g : List (DataW H) → Nat} (hB : Bulk1 f g) {t ts tb tss ti tbool : TypeId} (hT : DtaT P t ts tb tss ti tbool) : RdAt (α := Dt) enc P w sp held f t (fun d cs => ∃ v1 v2 v3, cs = [v1, v2, v3] ∧ RepDt (heapOf w) d v1 v2 v3)
    (fun d n => d.ranks.length ≤ n ∧ d.acc.length ≤ n ∧ d.to.length ≤ n ∧ ∀ x ∈ d.to, x.length ≤ n) := by
  obtain ⟨f1, f2, f3, hu, ⟨t1, o1⟩, ⟨t2, o2⟩, ⟨t3, o3⟩⟩ := hT.u
  intro fuel cs x h
  obtain ⟨xs, n, rfl, rfl, hcl, hxl, hxs⟩ := DataW.trod_struct hu h
  rw [hT.ct] at hcl
  obtain ⟨c0, c1, c2, rfl⟩ : ∃ c0 c1 c2, cs = [c0, c1, c2] := by
    match cs, hcl with
    | [a, b, c], _ => exact ⟨a, b, c, rfl⟩
  obtain ⟨y0, y1, y2, rfl⟩ : ∃ y0 y1 y2, xs = [y0, y1, y2] := by
    match xs, hxl with
    | [a, b, c], _ => exact ⟨a, b, c, rfl⟩
  have h0 := hxs 0 f1 rfl
  have h1 := hxs 1 f2 rfl
  have h2 := hxs 2 f3 rfl
  rw [t1, o1, hT.cs] at h0
  rw [t2, o2, hT.cb] at h1
  rw [t3, o3, hT.css] at h2
  obtain ⟨rs, hr, hrb, _⟩ := rd_slice hB (fun _ _ _ _ _ => trivial) hT.us hT.ci (by decide) (rd_int hT.ui) _ _ _ h0
  obtain ⟨bs, hbs, hbb, _⟩ := rd_slice hB (fun _ _ _ _ _ => trivial) hT.ub hT.cbo (by decide) (rd_bool hT.ubo) _ _ _ h1
  obtain ⟨ts', hts, htb, htb2⟩ := rd_slice (B := BSl fun _ _ => True) hB (fun _ _ _ h1 h2 => ⟨Nat.le_trans h2.1 h1, h2.2⟩) hT.uss hT.cs (by decide) (rd_slice hB (fun _ _ _ _ _ => trivial) hT.us hT.ci (by decide) (rd_int hT.ui)) _ _ _ h2
  obtain ⟨v1, e0, hv1⟩ := hr.si
  obtain ⟨v2, e1, hv2⟩ := hbs.sb
  obtain ⟨v3, e2, hv3⟩ := hts.ssi
  have e0' : c0 = v1 := by simpa using e0
  have e1' : c1 = v2 := by simpa using e1
  have e2' : c2 = v3 := by simpa using e2
  subst e0' e1' e2'
  have hsum : f (.agg ([y0, y1, y2].map (·.1))) = f y0.1 + (f y1.1 + (f y2.1 + 0)) + 1 := by
    simp only [List.map_cons, List.map_nil, hB.b.agg, hB.b.cons, hB.b.nil]
  refine ⟨⟨rs, bs, ts'⟩, ⟨_, _, _, rfl, hv1, hv2, hv3⟩, ?_⟩
  dsimp only
  rw [hsum]
  exact ⟨by omega, by omega, by omega, fun x hx => by have := (htb2 x hx).1; omega⟩
theorem agg_of {v : Value} {cs : List Value} (h : v.cells.toList = cs) (hl : cs.length ≠ 1) : v = .agg cs.toArray := by
  subst h
  cases v with
  | agg c => rfl
  | _ => exact absurd rfl hl
theorem okw_agg {base : Nat} {t : TypeId} {c2 : Array Value} (ht : (∃ e, P.underlying t = some (.slice e)) ∨ ∃ k, P.underlying t = some (.int k)) (h : Value.okWide P w .any base t (.agg c2)) : False := by
  unfold Value.okWide at h
  rcases ht with ⟨e, ht⟩ | ⟨k, ht⟩ <;>
  · rw [ht] at h
    unfold Cell.okWide at h
    rw [ht] at h
    dsimp only at h
    unfold Cell.ok at h
    rw [ht] at h
    exact h
theorem okw_cell {base : Nat} {t : TypeId} {v u : Value} (ht : (∃ e, P.underlying t = some (.slice e)) ∨ ∃ k, P.underlying t = some (.int k)) (h : Value.okWide P w .any base t v) (hc : v.cells.toList = [u]) : v = u := by
  cases v with
  | agg c2 => exact (okw_agg ht h).elim
  | _ => exact List.head_eq_of_cons_eq hc
end
end Pal
