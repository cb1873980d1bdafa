/-
  Part of the proof: rules for walks, contracts of the functions that the statements reach, plain laws. Own work. No statement of the seat is proved here.
-/
import Derived.Test.YtdclodapkhgabaaGreatPart2
namespace Go.Proofs.X
open Go Pal Go.Proofs
attribute [local irreducible] Pal.KO Pal.KC Pal.KQ Pal.KD
theorem z4 : zeroOk Tryz.prog T4 (.bool false) := .of (by kernel_rfl)
theorem z52 : zeroOk Tryz.prog T52 (.slice none 0 0) := .of (by kernel_rfl)
theorem z2048 : zeroOk Tryz.prog T2048 (.nilFunc) := .of (by kernel_rfl)
theorem c2056 : callable Tryz.prog F2056 = true := by kernel_rfl
theorem c2057 : callable Tryz.prog F2057 = true := by kernel_rfl
theorem c2058 : callable Tryz.prog F2058 = true := by kernel_rfl
theorem c2059 : callable Tryz.prog F2059 = true := by kernel_rfl
theorem ap52 : App Tryz.prog T52 T4 1 1 := .of sl52 (by kernel_rfl)
set_option maxHeartbeats 1000000 in
theorem ntrim_spec (a : Au) (v1 v2 v3 : Value) (H : View) (ha : RepAu H a v1 v2 v3) : Sat Tryz.prog F2029 #[.agg #[v1, .int .i64 a.states, v2, v3]] H (fun r H' => ∃ v1 v2 v3, r = .tuple #[.agg #[v1, .int .i64 (errAu (auErr a) (normA (trimA a))).states, v2, v3], .int .i64 (auErr a)] ∧ RepAu H' (errAu (auErr a) (normA (trimA a))) v1 v2 v3) := by
  obtain ⟨ar, arc, rfl⟩ := ha.r.shape
  obtain ⟨af, afc, rfl⟩ := ha.f.shape
  obtain ⟨au, auc, rfl⟩ := ha.ushape
  have hab := ha.b
  have hrl := ha.rl
  have hul := ha.ul
  have hfl := ha.fl
  refine enterO (n := 157) (args := [.agg #[.slice ar a.ranks.length arc, .int .i64 a.states, .slice au a.rules.length auc, .slice af a.final.length afc]]) Tryz.func40 rfl rfl rfl fun w0 => ?_
  refine K_seq ?_
  refine K_region ?_
  refine KA (A_box rfl) rfl fun b1 => ?_
  refine KA (A_alloc z50) rfl fun b2 => ?_
  refine KV (R_assign rfl) rfl ?_
  refine K_nil ?_
  refine Q_then ?_
  refine K_seq ?_
  refine K_seq ?_
  refine K_region ?_
  refine KV (R_loadW ty50 1 rfl rfl rfl rfl) rfl ?_
  refine K_call c77 rfl rfl (ncheck_spec a _ _ _ H ha) ?_
  rintro _ V1 hv1 rfl
  refine KV (R_assign rfl) rfl ?_
  refine K_nil ?_
  refine Q_then ?_
  refine K_seq ?_
  refine K_region ?_
  refine KV (R_move rfl) rfl ?_
  refine KV (R_cmp rfl rfl rfl) rfl ?_
  refine K_nil ?_
  refine Q_then ?_
  refine K_if rfl (fun h24 => ?_) (fun h24 => ?_)
  ·
    refine K_seq ?_
    refine K_region ?_
    refine KV (R_build z50 pl50 rfl rfl) rfl ?_
    refine KV (R_move rfl) rfl ?_
    refine K_storeW ty50 0 rfl rfl rfl rfl rfl rfl rfl ?_
    refine KV (R_assign rfl) rfl ?_
    refine K_nil ?_
    refine Q_then ?_
    refine K_ret ?_
    refine Q_then_ret ?_
    refine results_gen (rs := [.cell 2 37, .tmp 3]) (vs := [_, _]) rfl ⟨⟨_, _, _, _, _, _, 0, rfl, rfl, ty50, (fun e => by cases e), rfl, rfl⟩, ⟨rfl, trivial⟩⟩ ?_
    rw [errAu_no h24]
    exact ⟨nilS, nilS, nilS, rfl, RepAu.nil _⟩
  ·
    have hae := Decidable.not_not.1 h24
    have hok := AuOk.of hae
    obtain ⟨hst0, hst1⟩ := hok.st
    have hns : a.states = ((a.states.toNat : Nat) : Int) := by omega
    have hnb : a.states.toNat ≤ 256 := by omega
    refine K_skip ?_
    refine Q_then ?_
    refine K_seq ?_
    refine K_regionD (fin := true) (R := [0, 1, 3, 4, 2, 6, 7, 8, 5, 9]) (by kernel_rfl) mixed (.cons_cons _ (.cons_cons _ (List.nil_sublist _))) ?_
    refine D_val rfl rfl rfl (R_fieldAddr 1 fd50_1 rfl) ?_
    refine D_val rfl rfl rfl (R_loadO ty3 1 rfl rfl rfl rfl (fun _ => rfl) rfl) ?_
    refine D_val rfl rfl rfl (R_fieldAddr 1 fd50_1 rfl) ?_
    refine D_val rfl rfl rfl (R_loadO ty3 1 rfl rfl rfl rfl (fun _ => rfl) rfl) ?_
    refine D_makeSlice rfl rfl rfl ⟨⟨0, rfl⟩, ⟨1, rfl⟩, trivial⟩ (A_makeSlice (k := a.states.toNat) ap52 z4 ty4 (congrArg (fun z => some (Value.int .i64 z)) hns) (congrArg (fun z => some (Value.int .i64 z)) hns) (by omega) (by omega)) fun b29 => ?_
    refine D_alloc rfl rfl rfl (A_alloc z52) fun b5 => ?_
    refine D_alloc rfl rfl rfl (A_alloc z52) fun b6 => ?_
    refine D_storeW ty52 1 rfl rfl rfl rfl rfl ⟨⟨2, rfl⟩, ⟨3, rfl⟩, trivial⟩ rfl rfl rfl rfl ?_
    refine D_makeSlice rfl rfl rfl ⟨⟨3, rfl⟩, ⟨4, rfl⟩, trivial⟩ (A_makeSlice (k := a.states.toNat) ap52 z4 ty4 (congrArg (fun z => some (Value.int .i64 z)) hns) (congrArg (fun z => some (Value.int .i64 z)) hns) (by omega) (by omega)) fun b32 => ?_
    refine D_lastStoreW ty52 2 rfl rfl rfl rfl rfl rfl rfl rfl rfl ?_
    refine KQ_front 1 rfl ?_
    try dsimp only [List.eraseIdx]
    refine KQ_pubF fun Ua hua hb5 => ?_
    skip
    refine KQ_front 1 rfl ?_
    try dsimp only [List.eraseIdx]
    refine KQ_pubF fun Ub hub hb6 => ?_
    skip
    rw [show madeCells (Value.bool false).cells (a.states.toNat * 1) = mkL (noneL a.states.toNat) from mkL_made _]
    have hA5 : At Ub b5 0 [slc a.states.toNat b29] := (At.of hb5).mono hub
    have hA6 : At Ub b6 0 [slc a.states.toNat b32] := At.of hb6
    have hvX := hv1.trans (hua.trans hub)
    refine Q_then ?_
    refine K_seq ?_
    refine K_region ?_
    refine KV (R_makeFunc rfl rfl) rfl ?_
    refine KA (A_alloc z2048) rfl fun b7 => ?_
    refine K_storeW ty2048 0 rfl rfl rfl rfl rfl rfl rfl ?_
    refine K_nil ?_
    refine KQ_front 0 rfl ?_
    try dsimp only [List.eraseIdx]
    refine KQ_pubF fun Uc huc hb7 => ?_
    skip
    have hA7 : At Uc b7 0 [.func (.func F2054) #[] #[ptr b5]] := At.of hb7
    have hvX := hvX.trans huc
    have hA5 := hA5.mono huc
    have hA6 := hA6.mono huc
    have hvis1 : ∀ V m r va, VLe Uc V → m.length = a.states.toNat → r ∈ a.rules → RVok V (r, va) → SatO Tryz.prog F2057 ([] ++ [Value.agg (cellRV (r, va)).toArray] ++ [ptr b5, ptr b7]).toArray V [blk b29 (.cells (mkL m) T4 (0, 0))] (fun v _ p => v = .bool (decide (comeS m r ≠ m)) ∧ p = [blk b29 (.cells (mkL (comeS m r)) T4 (0, 0))]) := fun V m r va hV hm hr hrv => by
      obtain ⟨_, _, _, k4, k5, k6⟩ := hok.ru r hr
      exact come_spec m b5 b7 b29 r va V (by omega) (by rw [hm]; exact hA5.mono hV) (hA7.mono hV) hrv (fun q hq => by have := k4 q hq; omega) (by omega)
    refine Q_then ?_
    refine K_seq ?_
    refine K_region ?_
    refine KV (R_loadW ty50 3 rfl rfl rfl rfl) rfl ?_
    refine KV (R_makeFunc rfl rfl) rfl ?_
    refine KO_sel [1, 0, 0, 0] rfl ?_
    refine K_callO (first := []) [_] _ (List.Perm.refl _) c2056 rfl rfl rfl (close_spec a _ _ _ Uc (ha.mono hvX) F2057 [ptr b5, ptr b7] c2057 comeS up_comeS (fun z => blk b29 (.cells (mkL z) T4 (0, 0))) a.states.toNat hvis1 (noneL a.states.toNat) (List.length_replicate ..)) ?_
    rintro _ V2 q2 hv2 ⟨m, k, rfl, hm, hfix⟩
    dsimp only [List.cons_append, List.nil_append]
    have hm2 : m = iterF (comeF a.rules) k (noneL a.states.toNat) := hm
    have hmc : m = comeA a := hm2.trans (comeA_is (by rw [← hm2]; exact hfix))
    subst hmc
    clear hm hm2 hfix k
    have hvX := hvX.trans hv2
    refine K_nil ?_
    refine KQ_front 0 rfl ?_
    try dsimp only [List.eraseIdx]
    refine KQ_pubF fun Ud hud hb29 => ?_
    skip
    have hm29 : At Ud b29 0 (mkL (comeA a)).toList := At.of hb29
    have hvX := hvX.trans hud
    have hA5 := hA5.mono (hv2.trans hud)
    have hA6 := hA6.mono (hv2.trans hud)
    have hA7 := hA7.mono (hv2.trans hud)
    have hcl := comeA_len a
    have hvis2 : ∀ V m r va, VLe Ud V → m.length = a.states.toNat → r ∈ a.rules → RVok V (r, va) → SatO Tryz.prog F2058 ([] ++ [Value.agg (cellRV (r, va)).toArray] ++ [ptr b6, ptr b7]).toArray V [blk b32 (.cells (mkL m) T4 (0, 0))] (fun v _ p => v = .bool (decide (leadS (comeA a) m r ≠ m)) ∧ p = [blk b32 (.cells (mkL (leadS (comeA a) m r)) T4 (0, 0))]) := fun V m r va hV hm hr hrv => by
      obtain ⟨_, _, _, k4, k5, k6⟩ := hok.ru r hr
      exact lead_spec (comeA a) m b5 b6 b7 b29 b32 r va V (by omega) (by omega) (by rw [hcl]; exact hA5.mono hV) (hm29.mono hV) (by rw [hm]; exact hA6.mono hV) (hA7.mono hV) hrv (fun q hq => by have := k4 q hq; omega) (by omega)
    refine Q_then ?_
    refine K_seq ?_
    refine K_seq ?_
    refine K_region ?_
    refine KV (R_fieldAddr 3 fd50_3 rfl) rfl ?_
    refine KV (R_loadO ty25 2 rfl rfl rfl rfl (fun _ => rfl) rfl) rfl ?_
    refine KV (R_len sl25 rfl) rfl ?_
    refine KV (R_move rfl) rfl ?_
    refine K_nil ?_
    refine Q_then ?_
    refine K_block ?_
    refine K_loopD (G := Nat) [9, 40, 41, 42, 43, 44, 45, 46, 47] (fun g => [(40, .int .i64 (g : Int))]) (fun hl g => (hl.set 0 (blk b32 (.cells (mkL (setsL (noneL a.states.toNat) (a.final.take g))) T4 (0, 0))))) (fun g => Ud) (fun g => (g ≤ a.final.length)) (fun g => a.final.length - g) (0 : Nat) (Nat.zero_le _) ⟨rfl, trivial⟩ (by simp only [args0, Nat.reduceAdd, del, memN, beqN, Nat.reduceBEq, cond_true, cond_false]; rfl) rfl rfl ?_
    rintro k hk
    try dsimp only at hk
    dsimp only [List.set, List.cons_append, List.nil_append]
    have hsl : (setsL (noneL a.states.toNat) (a.final.take k)).length = a.states.toNat := (setsL_len _ _).trans (List.length_replicate ..)
    refine K_seq ?_
    refine K_region ?_
    refine KV (R_cmp rfl rfl rfl) rfl ?_
    refine K_nil ?_
    refine Q_then ?_
    refine K_seq ?_
    refine K_if rfl (fun h41 => ?_) (fun h41 => ?_)
    ·
      have hk' : k < a.final.length := by omega
      obtain ⟨fb, fo, hfe, hfk⟩ := (ha.mono hvX).f.get hk'
      cases hfe
      have hqk := hok.fi _ (List.getElem_mem hk')
      refine K_skip ?_
      refine Q_then ?_
      refine K_seq ?_
      refine K_block ?_
      refine K_seq ?_
      refine K_region ?_
      refine KV (R_indexN sl25 ty3 rfl rfl (by omega)) rfl ?_
      refine KV (R_loadH ty3 rfl (hfk) rfl (fun _ => rfl) rfl) rfl ?_
      refine KV (R_assign rfl) rfl ?_
      refine K_nil ?_
      refine Q_then ?_
      refine K_region ?_
      refine KV (R_loadH ty52 rfl (hA6) rfl (fun _ => rfl) rfl) rfl ?_
      refine KV (R_move rfl) rfl ?_
      refine KV (R_index sl52 ty4 rfl rfl ⟨hqk.1, by omega⟩) rfl ?_
      refine K_storeE ty4 0 rfl rfl rfl rfl (by rw [mkL_size]; show _ + 1 ≤ _; omega) rfl (mkL_put (q := a.final[k]) (by omega) (by omega)) ?_
      refine K_nil ?_
      refine Q_block ?_
      refine Q_then ?_
      refine K_region ?_
      refine KV (R_add rfl rfl (by omega)) rfl ?_
      refine KV (R_move rfl) rfl ?_
      refine K_nil ?_
      refine Q_nextD ((k + 1)) hk' (by (try dsimp only); omega) ⟨rfl, trivial⟩ rfl (by dsimp only [List.set]; rw [setsL_snoc hk']) rfl
    ·
      have hk' : k = a.final.length := by omega
      rw [hk', List.take_length, finL_is]
      refine K_exit ?_
      refine Q_then_exit ?_
      refine Q_then_exit ?_
      refine Q_block_exit ?_
      refine Q_then ?_
      refine K_seq ?_
      refine K_region ?_
      refine KV (R_loadW ty50 2 rfl rfl rfl rfl) rfl ?_
      refine KV (R_makeFunc rfl rfl) rfl ?_
      refine KO_sel [0, 0, 0] rfl ?_
      refine K_callO (first := []) [_] _ (List.Perm.refl _) c2056 rfl rfl rfl (close_spec a _ _ _ Ud (ha.mono hvX) F2058 [ptr b6, ptr b7] c2058 (leadS (comeA a)) (up_leadS (comeA a)) (fun z => blk b32 (.cells (mkL z) T4 (0, 0))) a.states.toNat hvis2 (finL a.final a.states.toNat) (finL_len _ _)) ?_
      rintro _ V3 q3 hv3 ⟨m, k, rfl, hm, hfix⟩
      dsimp only [List.cons_append, List.nil_append]
      have hm2 : m = iterF (leadF (comeA a) a.rules) k (finL a.final a.states.toNat) := hm
      have hmc : m = leadA a := hm2.trans (leadA_is (by rw [← hm2]; exact hfix))
      subst hmc
      clear hm hm2 hfix k
      have hvX := hvX.trans hv3
      refine K_nil ?_
      refine KQ_front 0 rfl ?_
      try dsimp only [List.eraseIdx]
      refine KQ_pubF fun Ue hue hb32 => ?_
      skip
      have hm32 : At Ue b32 0 (mkL (leadA a)).toList := At.of hb32
      have hvX := hvX.trans hue
      have hll := leadA_len a
      have hA5 := hA5.mono (hv3.trans hue)
      have hA6 := hA6.mono (hv3.trans hue)
      have hm29 := hm29.mono (hv3.trans hue)
      refine Q_then ?_
      refine K_seq ?_
      refine K_region ?_
      refine KV (R_fieldAddr 0 fd50_0 rfl) rfl ?_
      refine KV (R_loadO ty47 1 rfl rfl rfl rfl (fun _ => rfl) rfl) rfl ?_
      refine K_call c45 rfl rfl (clone47_spec a.ranks _ Ue (ha.mono hvX).r hrl) ?_
      rintro _ V6 hv6 hcr
      obtain ⟨cra, crc, rfl⟩ := hcr.shape
      have hvX := hvX.trans hv6
      have hA5 := hA5.mono hv6
      have hA6 := hA6.mono hv6
      have hm29 := hm29.mono hv6
      have hm32 := hm32.mono hv6
      refine KV (R_build z50 pl50 rfl rfl) rfl ?_
      refine KA (A_alloc z50) rfl fun b10 => ?_
      refine K_storeW ty50 0 rfl rfl rfl rfl rfl rfl rfl ?_
      refine K_nil ?_
      refine Q_then ?_
      refine K_seq ?_
      refine K_region ?_
      refine KV (R_fieldAddr 1 fd50_1 rfl) rfl ?_
      refine KV (R_loadO ty3 2 rfl rfl rfl rfl (fun _ => rfl) rfl) rfl ?_
      refine KA (A_makeSlice (k := a.states.toNat) ap25 z3 ty3 (congrArg (fun z => some (Value.int .i64 z)) hns) (congrArg (fun z => some (Value.int .i64 z)) hns) (by omega) (by omega)) rfl fun b57 => ?_
      refine KA (A_alloc z25) rfl fun b11 => ?_
      refine K_storeW ty25 0 rfl rfl rfl rfl rfl rfl rfl ?_
      refine K_nil ?_
      refine KQ_front 0 rfl ?_
      try dsimp only [List.eraseIdx]
      refine KQ_pubF fun Uf huf hb11 => ?_
      skip
      have hA11 : At Uf b11 0 [slc a.states.toNat b57] := At.of hb11
      have hvX := hvX.trans huf
      have hA5 := hA5.mono huf
      have hA6 := hA6.mono huf
      have hm29 := hm29.mono huf
      have hm32 := hm32.mono huf
      refine Q_then ?_
      refine K_seq ?_
      refine K_seq ?_
      refine K_region ?_
      refine KV (R_fieldAddr 1 fd50_1 rfl) rfl ?_
      refine KV (R_loadO ty3 3 rfl rfl rfl rfl (fun _ => rfl) rfl) rfl ?_
      refine KV (R_move rfl) rfl ?_
      refine K_nil ?_
      refine Q_then ?_
      refine K_block ?_
      refine K_loopD (G := Nat) [12, 60, 61, 62, 63, 64, 65, 66, 67, 68, 69, 70, 71, 72, 73, 74, 75, 76, 77, 78, 79, 80, 81, 82, 83, 84, 85] (fun g => [(60, .int .i64 (g : Int))]) (fun hl g => ((hl.set 0 (blk b57 (.cells (fnC a.states.toNat (toF a g)) T3 (0, 0)))).set 1 (blk b10 (.cells #[.slice cra a.ranks.length crc, .int .i64 ((cntN a g : Nat) : Int), .slice none 0 0, .slice none 0 0] T50 (0, 0))))) (fun g => Uf) (fun g => (g ≤ a.states.toNat)) (fun g => a.states.toNat - g) (0 : Nat) (Nat.zero_le _) ⟨rfl, trivial⟩ (by simp only [args0, Nat.reduceAdd, del, memN, beqN, Nat.reduceBEq, cond_true, cond_false]; rfl) (by rw [toF_zero, ← fnC_made]; rfl) rfl ?_
      rintro s hs
      try dsimp only at hs
      dsimp only [List.set, List.cons_append, List.nil_append]
      refine K_seq ?_
      refine K_region ?_
      refine KV (R_cmp rfl rfl rfl) rfl ?_
      refine K_nil ?_
      refine Q_then ?_
      refine K_seq ?_
      refine K_if rfl (fun h61 => ?_) (fun h61 => ?_)
      ·
        have hs' : s < a.states.toNat := by omega
        have hcs := hm29.markN (s := s) (by omega)
        have hls := hm32.markN (s := s) (by omega)
        have htl := cntN_le a s
        refine K_skip ?_
        refine Q_then ?_
        refine K_seq ?_
        refine K_block ?_
        refine K_seq ?_
        refine K_region ?_
        refine KV (R_move rfl) rfl ?_
        refine KV (R_assign rfl) rfl ?_
        refine K_nil ?_
        refine Q_then ?_
        refine K_seq ?_
        refine K_region ?_
        refine KV (R_loadH ty25 rfl (hA11) rfl (fun _ => rfl) rfl) rfl ?_
        refine KV (R_move rfl) rfl ?_
        refine KV (R_indexN sl25 ty3 rfl rfl (by omega)) rfl ?_
        refine K_storeE ty3 0 rfl rfl rfl rfl (by rw [fnC_size]; show _ + 1 ≤ _; omega) rfl (fnC_put hs' (by omega) (toG_is a s)) ?_
        refine K_nil ?_
        refine Q_then ?_
        refine K_seq ?_
        refine K_region ?_
        refine KV (R_loadH ty52 rfl (hA5) rfl (fun _ => rfl) rfl) rfl ?_
        refine KV (R_move rfl) rfl ?_
        refine KV (R_indexN sl52 ty4 rfl rfl (by omega)) rfl ?_
        refine KV (R_loadH ty4 rfl (hcs) rfl (fun _ => rfl) rfl) rfl ?_
        refine KV (R_move rfl) rfl ?_
        refine K_splitB ?_ ?_
        ·
          intro h70
          refine K_gyes rfl rfl ?_
          refine KV (R_loadH ty52 rfl (hA6) rfl (fun _ => rfl) rfl) rfl ?_
          refine K_gyes rfl rfl ?_
          refine KV (R_move rfl) rfl ?_
          refine K_gyes rfl rfl ?_
          refine KV (R_indexN sl52 ty4 rfl rfl (by omega)) rfl ?_
          refine K_gyes rfl rfl ?_
          refine KV (R_loadH ty4 rfl (hls) rfl (fun _ => rfl) rfl) rfl ?_
          refine KV (R_pickT rfl rfl) rfl ?_
          refine K_nil ?_
          refine Q_then ?_
          refine K_ifB rfl (fun h75 => ?_) (fun h75 => ?_)
          ·
            have hst : stayA a (s : Int) = true := by unfold stayA; rw [h70, h75]; rfl
            refine K_seq ?_
            refine K_region ?_
            refine KV (R_loadH ty25 rfl (hA11) rfl (fun _ => rfl) rfl) rfl ?_
            refine KV (R_move rfl) rfl ?_
            refine KV (R_fieldAddr 1 fd50_1 rfl) rfl ?_
            refine KV (R_loadO ty3 1 rfl rfl rfl rfl (fun _ => rfl) rfl) rfl ?_
            refine KV (R_indexN sl25 ty3 rfl rfl (by omega)) rfl ?_
            refine K_storeE ty3 0 rfl rfl rfl rfl (by rw [fnC_size]; show _ + 1 ≤ _; omega) rfl (fnC_put hs' (by omega) (toF_stay hst)) ?_
            refine K_nil ?_
            refine Q_then ?_
            refine K_region ?_
            refine KV (R_fieldAddr 1 fd50_1 rfl) rfl ?_
            refine KV (R_loadO ty3 1 rfl rfl rfl rfl (fun _ => rfl) rfl) rfl ?_
            refine KV (R_add rfl rfl (by omega)) rfl ?_
            refine KV (R_fieldAddr 1 fd50_1 rfl) rfl ?_
            refine K_store ty3 1 rfl rfl rfl rfl rfl rfl ?_
            refine K_nil ?_
            refine Q_block ?_
            refine Q_then ?_
            refine K_region ?_
            refine KV (R_add rfl rfl (by omega)) rfl ?_
            refine KV (R_move rfl) rfl ?_
            refine K_nil ?_
            refine Q_nextD ((s + 1)) hs' (by (try dsimp only); omega) ⟨rfl, trivial⟩ rfl (by rw [cntN_succ, if_pos hst]; rfl) rfl
          ·
            have hgone : stayA a (s : Int) = false := by unfold stayA; rw [h70, h75]; rfl
            refine K_skip ?_
            refine Q_block ?_
            refine Q_then ?_
            refine K_region ?_
            refine KV (R_add rfl rfl (by omega)) rfl ?_
            refine KV (R_move rfl) rfl ?_
            refine K_nil ?_
            refine Q_nextD ((s + 1)) hs' (by (try dsimp only); omega) ⟨rfl, trivial⟩ rfl (by rw [toF_gone hgone, cntN_succ, if_neg (by rw [hgone]; decide)]; rfl) rfl
        ·
          intro h70
          have hgone : stayA a (s : Int) = false := by unfold stayA; rw [h70]; rfl
          refine K_gno rfl rfl rfl rfl ?_
          refine K_gno rfl rfl rfl rfl ?_
          refine K_gno rfl rfl rfl rfl ?_
          refine K_gno rfl rfl rfl rfl ?_
          refine KV (R_pickF rfl rfl) rfl ?_
          refine K_nil ?_
          refine Q_then ?_
          refine K_ifF rfl ?_
          refine K_skip ?_
          refine Q_block ?_
          refine Q_then ?_
          refine K_region ?_
          refine KV (R_add rfl rfl (by omega)) rfl ?_
          refine KV (R_move rfl) rfl ?_
          refine K_nil ?_
          refine Q_nextD ((s + 1)) hs' (by (try dsimp only); omega) ⟨rfl, trivial⟩ rfl (by rw [toF_gone hgone, cntN_succ, if_neg (by rw [hgone]; decide)]; rfl) rfl
      ·
        have hs' : s = a.states.toNat := by omega
        subst hs'
        refine K_exit ?_
        refine Q_then_exit ?_
        refine Q_then_exit ?_
        refine Q_block_exit ?_
        refine Q_then ?_
        refine K_seq ?_
        refine KC_front 0 rfl ?_
        try dsimp only [List.eraseIdx]
        refine KC_pubF fun Ug hug hb57 => ?_
        skip
        have htab : At Ug b57 0 (fnC a.states.toNat (toF a a.states.toNat)).toList := At.of hb57
        have hvX := hvX.trans hug
        have hA11 := hA11.mono hug
        have hcr := hcr.mono (huf.trans hug)
        have hnn := cntN_le a a.states.toNat
        refine K_region ?_
        refine KV (R_makeFunc rfl rfl) rfl ?_
        refine KV (R_assign rfl) rfl ?_
        refine K_nil ?_
        refine Q_then ?_
        refine K_seq ?_
        refine K_seq ?_
        refine K_region ?_
        refine KV (R_fieldAddr 2 fd50_2 rfl) rfl ?_
        refine KV (R_loadO ty48 2 rfl rfl rfl rfl (fun _ => rfl) rfl) rfl ?_
        refine KV (R_len sl48 rfl) rfl ?_
        refine KV (R_move rfl) rfl ?_
        refine K_nil ?_
        refine Q_then ?_
        refine K_block ?_
        refine K_nilrow T85 3 ?_
        refine K_loopD (G := Nat × View × Value × List Value) [15, 16, 18, 90, 91, 92, 93, 94, 95, 96, 97, 98, 99, 100, 101, 102, 103, 104, 105, 106, 107, 108, 109, 110, 111, 112, 113, 114, 115, 116, 117, 118, 119, 120, 121, 122, 123, 124, 125, 126, 127, 128, 129, 130, 131, 132, 133] (fun g => [(90, .int .i64 (g.1 : Int))]) (fun hl g => ((hl.set 0 (row g.2.2.1 T85 3 (leftR a (a.rules.take g.1)).length g.2.2.2)).set 1 (blk b10 (.cells #[.slice cra a.ranks.length crc, .int .i64 ((cntN a a.states.toNat : Nat) : Int), g.2.2.1, .slice none 0 0] T50 (0, 0))))) (fun g => g.2.1) (fun g => (g.1 ≤ a.rules.length) ∧ (VLe Ug g.2.1) ∧ (RepL (RepR g.2.1) 3 (leftR a (a.rules.take g.1)) g.2.2.2) ∧ (∃ ad cp, g.2.2.1 = .slice ad (leftR a (a.rules.take g.1)).length cp)) (fun g => a.rules.length - g.1) (0, Ug, nilS, []) ⟨Nat.zero_le _, VLe.refl _, .nil, none, 0, rfl⟩ ⟨rfl, trivial⟩ (by simp only [args0, Nat.reduceAdd, del, memN, beqN, Nat.reduceBEq, cond_true, cond_false]; rfl) rfl rfl ?_
        rintro ⟨k, V, w, cells⟩ ⟨hk, hV, hC, hw⟩
        dsimp only at hk hV hC hw
        dsimp only [List.set, List.cons_append, List.nil_append]
        obtain ⟨wa, wcp, rfl⟩ := hw
        have hlb := leftR_len a (a.rules.take k)
        rw [List.length_take] at hlb
        refine K_seq ?_
        refine K_region ?_
        refine KV (R_cmp rfl rfl rfl) rfl ?_
        refine K_nil ?_
        refine Q_then ?_
        refine K_seq ?_
        refine K_if rfl (fun h91 => ?_) (fun h91 => ?_)
        ·
          have hk' : k < a.rules.length := by omega
          obtain ⟨ub, uo, ucp2, xa, xcp, hue, hrc, hsr, hsym, hto, hxl⟩ := (ha.mono (hvX.trans hV)).rule hk'
          cases hue
          obtain ⟨g1, g2, g3, g4, g5, g6⟩ := hok.ru _ (List.getElem_mem hk')
          refine K_skip ?_
          refine Q_then ?_
          refine K_seq ?_
          refine K_block ?_
          refine K_seq ?_
          refine K_region ?_
          refine KV (R_indexN sl48 ty85 rfl rfl (by omega)) rfl ?_
          refine KV (R_loadH ty85 rfl (hrc) rfl (fun e => by cases e) rfl) rfl ?_
          refine KA (A_alloc z85) rfl fun b15 => ?_
          refine K_storeW ty85 0 rfl rfl rfl rfl rfl rfl rfl ?_
          refine K_nil ?_
          refine Q_then ?_
          refine K_seq ?_
          refine K_seq ?_
          refine K_region ?_
          refine KV (R_move rfl) rfl ?_
          refine KV (R_fieldAddr 2 fd85_2 rfl) rfl ?_
          refine KV (R_loadO ty3 0 rfl rfl rfl rfl (fun _ => rfl) rfl) rfl ?_
          refine K_callO (first := []) [] _ (List.Perm.refl _) c2059 rfl rfl rfl (gone_spec a a.states.toNat b11 b57 a.rules[k].to V (by omega) (hA11.mono hV) (htab.mono hV) ⟨g5, by omega⟩).nil ?_
          rintro _ V1 q97 hv1 ⟨rfl, rfl⟩
          dsimp only [List.nil_append]
          refine KV (R_move rfl) rfl ?_
          refine K_splitB ?_ ?_
          ·
            intro h98
            have hke : keepR a a.rules[k] = false := by unfold keepR; rw [show stayA a a.rules[k].to = false by simpa using h98]; rfl
            refine K_gno rfl rfl rfl rfl ?_
            refine K_gno rfl rfl rfl rfl ?_
            refine K_gno rfl rfl rfl rfl ?_
            refine K_gno rfl rfl rfl rfl ?_
            refine KV (R_pickT rfl rfl) rfl ?_
            refine K_nil ?_
            refine Q_then ?_
            refine K_ifT rfl ?_
            refine K_exit ?_
            refine Q_then_exit ?_
            refine Q_block_exit ?_
            refine Q_then ?_
            refine K_region ?_
            refine KV (R_add rfl rfl (by omega)) rfl ?_
            refine KV (R_move rfl) rfl ?_
            refine K_nil ?_
            refine KQ_sel [1, 1, 1, 1] rfl ?_
            have hno : leftR a (a.rules.take (k + 1)) = leftR a (a.rules.take k) := by rw [leftR_snoc hk', if_neg (by rw [hke]; decide), List.append_nil]
            refine Q_nextD (k + 1, V1, .slice wa (leftR a (a.rules.take k)).length wcp, cells) ⟨hk', hV.trans hv1, by rw [hno]; exact hC.imp fun x cs h => h.mono hv1, _, _, by rw [hno]⟩ (by (try dsimp only); omega) ⟨rfl, trivial⟩ rfl (by dsimp only [List.set]; rw [hno]; rfl) rfl
          ·
            intro h98
            have hst : stayA a a.rules[k].to = true := by simpa using h98
            refine K_gyes rfl rfl ?_
            refine KV (R_fieldAddr 1 fd85_1 rfl) rfl ?_
            refine K_gyes rfl rfl ?_
            refine KV (R_loadO ty25 0 rfl rfl rfl rfl (fun _ => rfl) rfl) rfl ?_
            refine K_gyes rfl rfl ?_
            refine KV (R_move rfl) rfl ?_
            refine K_gyes rfl rfl ?_
            refine K_call c86 rfl rfl (sicon_spec F2059 [ptr b11] (fun q => !stayA a q) a.rules[k].args _ V1 (hsr.mono hv1) hxl c2059 (fun x V2 hx hV2 => gone_spec a a.states.toNat b11 b57 x V2 (by omega) (hA11.mono (hV.trans (hv1.trans hV2))) (htab.mono (hV.trans (hv1.trans hV2))) (by have := g4 x hx; omega))) ?_
            rintro _ V2 hv2 rfl
            refine KV (R_pickF rfl rfl) rfl ?_
            refine K_nil ?_
            refine Q_then ?_
            refine K_ifB rfl (fun h103 => ?_) (fun h103 => ?_)
            ·
              have hke : keepR a a.rules[k] = false := by
                unfold keepR
                obtain ⟨x, hx, hx2⟩ := List.any_eq_true.1 h103
                rw [Bool.and_eq_false_iff]; right
                exact List.all_eq_false.2 ⟨x, hx, by simpa using hx2⟩
              refine K_exit ?_
              refine Q_then_exit ?_
              refine Q_block_exit ?_
              refine Q_then ?_
              refine K_region ?_
              refine KV (R_add rfl rfl (by omega)) rfl ?_
              refine KV (R_move rfl) rfl ?_
              refine K_nil ?_
              refine KQ_sel [1, 1, 1, 1] rfl ?_
              have hno : leftR a (a.rules.take (k + 1)) = leftR a (a.rules.take k) := by rw [leftR_snoc hk', if_neg (by rw [hke]; decide), List.append_nil]
              refine Q_nextD (k + 1, V2, .slice wa (leftR a (a.rules.take k)).length wcp, cells) ⟨hk', hV.trans (hv1.trans hv2), by rw [hno]; exact hC.imp fun x cs h => h.mono (hv1.trans hv2), _, _, by rw [hno]⟩ (by (try dsimp only); omega) ⟨rfl, trivial⟩ rfl (by dsimp only [List.set]; rw [hno]; rfl) rfl
            ·
              have hall : ∀ y ∈ a.rules[k].args, stayA a y = true := fun y hy => by simpa using (List.any_eq_false.1 h103 y hy)
              have hke : keepR a a.rules[k] = true := keepR_iff.2 ⟨hst, hall⟩
              refine K_skip ?_
              refine Q_then ?_
              refine K_seq ?_
              refine K_region ?_
              refine KV (R_assign rfl) rfl ?_
              refine K_nil ?_
              refine Q_then ?_
              refine K_seq ?_
              refine K_seq ?_
              refine K_region ?_
              refine KV (R_fieldAddr 1 fd85_1 rfl) rfl ?_
              refine KV (R_loadO ty25 0 rfl rfl rfl rfl (fun _ => rfl) rfl) rfl ?_
              refine KV (R_len sl25 rfl) rfl ?_
              refine KV (R_move rfl) rfl ?_
              refine K_nil ?_
              refine Q_then ?_
              refine K_block ?_
              refine K_nilrow T3 1 ?_
              refine K_loopD (G := Nat × Value) [16, 18, 107, 108, 109, 110, 111, 112, 113, 114, 115, 116, 117, 118] (fun g => [(107, .int .i64 (g.1 : Int)), (16, g.2)]) (fun hl g => (hl.set 0 (row g.2 T3 1 g.1 (ints ((a.rules[k].args.take g.1).map (newA a)))))) (fun g => V2) (fun g => (g.1 ≤ a.rules[k].args.length) ∧ (∃ ad cp, g.2 = .slice ad g.1 cp)) (fun g => a.rules[k].args.length - g.1) (0, nilS) ⟨Nat.zero_le _, none, 0, rfl⟩ ⟨rfl, rfl, trivial⟩ (by simp only [args0, Nat.reduceAdd, del, memN, beqN, Nat.reduceBEq, cond_true, cond_false]; rfl) rfl rfl ?_
              rintro ⟨j, w3⟩ ⟨hj, hw3⟩
              dsimp only at hj hw3
              dsimp only [List.set, List.cons_append, List.nil_append]
              obtain ⟨xa3, xcp3, rfl⟩ := hw3
              refine K_seq ?_
              refine K_region ?_
              refine KV (R_cmp rfl rfl rfl) rfl ?_
              refine K_nil ?_
              refine Q_then ?_
              refine K_seq ?_
              refine K_if rfl (fun h108 => ?_) (fun h108 => ?_)
              ·
                have hj' : j < a.rules[k].args.length := by omega
                obtain ⟨tb, to_, hte, hxj⟩ := (hsr.mono (hv1.trans hv2)).get hj'
                cases hte
                have hqj := g4 _ (List.getElem_mem hj')
                have htj := htab.fn (q := a.rules[k].args[j]) (by omega)
                rw [toF_full (by omega), newV_new (hall _ (List.getElem_mem hj')) hqj.1] at htj
                refine K_skip ?_
                refine Q_then ?_
                refine K_seq ?_
                refine K_block ?_
                refine K_seq ?_
                refine K_region ?_
                refine KV (R_indexN sl25 ty3 rfl rfl (by omega)) rfl ?_
                refine KV (R_loadH ty3 rfl (hxj) rfl (fun _ => rfl) rfl) rfl ?_
                refine KV (R_assign rfl) rfl ?_
                refine K_nil ?_
                refine Q_then ?_
                refine K_region ?_
                refine KV (R_move rfl) rfl ?_
                refine KV (R_loadH ty25 rfl (hA11.mono (hV.trans (hv1.trans hv2))) rfl (fun _ => rfl) rfl) rfl ?_
                refine KV (R_move rfl) rfl ?_
                refine KV (R_index sl25 ty3 rfl rfl ⟨hqj.1, by omega⟩) rfl ?_
                refine KV (R_loadH ty3 rfl (htj.mono (hV.trans (hv1.trans hv2))) rfl (fun _ => rfl) rfl) rfl ?_
                refine KA (A_buildSlice (vs := [.int .i64 (newA a a.rules[k].args[j])]) sl25 ty3 z3 rfl rfl (by simp [Value.cells]) (by simp) rfl (by decide)) rfl fun b116 => ?_
                refine K_append1 0 ap25 rfl rfl rfl rfl rfl rfl ⟨by omega, by omega⟩ rfl fun a117 k117 hn117 => ?_
                refine KV (R_assign rfl) rfl ?_
                refine K_nil ?_
                refine Q_block ?_
                refine Q_then ?_
                refine K_region ?_
                refine KV (R_add rfl rfl (by omega)) rfl ?_
                refine KV (R_move rfl) rfl ?_
                refine K_nil ?_
                refine Q_nextD (j + 1, .slice a117 (j + 1) k117) ⟨hj', _, _, rfl⟩ (by (try dsimp only); omega) ⟨rfl, rfl, trivial⟩ rfl (by dsimp only; rw [take_ints_snoc hj']; rfl) rfl
              ·
                have hj' : j = a.rules[k].args.length := by omega
                subst hj'
                rw [List.take_length]
                refine K_exit ?_
                refine Q_then_exit ?_
                refine Q_then_exit ?_
                refine Q_block_exit ?_
                refine Q_then ?_
                refine KC_front 0 rfl ?_
                try dsimp only [List.eraseIdx]
                refine KC_pubrow rfl fun V3 hv3 hrowp => ?_
                skip
                have hva := hv1.trans (hv2.trans hv3)
                have hRR : RepR V3 (newR a a.rules[k]) [.int .i64 a.rules[k].sym, .slice xa3 a.rules[k].args.length xcp3, .int .i64 (newA a a.rules[k].to)] := by
                  have e : (newR a a.rules[k]).args.length = a.rules[k].args.length := List.length_map ..
                  have hnb := newA_bound hst ⟨g5, g6⟩
                  refine ⟨xa3, xcp3, by rw [e]; rfl, ?_, hsym, by show i64ok (newA a a.rules[k].to); simp only [i64ok]; omega, by rw [e]; exact hxl⟩
                  rw [e]
                  refine ⟨by show SlAt _ _ (a.rules[k].args.map (newA a)).length _; rw [List.length_map]; exact hrowp.sl, fun x hx => ?_⟩
                  obtain ⟨y, hy, rfl⟩ := List.mem_map.1 (show x ∈ a.rules[k].args.map (newA a) from hx)
                  have hnb2 := newA_bound (hall y hy) (g4 y hy)
                  simp only [i64ok]; omega
                have hto2 := htab.fn (q := a.rules[k].to) (by omega)
                rw [toF_full (by omega), newV_new hst g5] at hto2
                refine K_regionD (fin := true) (R := [0, 1, 2, 3, 4, 5, 6, 7, 8, 9, 10, 11, 12, 13, 14]) (by kernel_rfl) mixed (.cons_cons _ (.cons _ (.cons_cons _ (.cons_cons _ (.cons_cons _ (List.nil_sublist _)))))) ?_
                refine D_val rfl rfl rfl (R_fieldAddr 2 fd50_2 rfl) ?_
                refine D_val rfl rfl rfl (R_loadO ty48 1 rfl rfl rfl rfl (fun _ => rfl) rfl) ?_
                refine D_val rfl rfl rfl (R_fieldAddr 0 fd85_0 rfl) ?_
                refine D_val rfl rfl rfl (R_loadO ty3 0 rfl rfl rfl rfl (fun _ => rfl) rfl) ?_
                refine D_val rfl rfl rfl (R_move rfl) ?_
                refine D_val rfl rfl rfl (R_loadH ty25 rfl (hA11.mono (hV.trans hva)) rfl (fun _ => rfl) rfl) ?_
                refine D_val rfl rfl rfl (R_fieldAddr 2 fd85_2 rfl) ?_
                refine D_val rfl rfl rfl (R_loadO ty3 0 rfl rfl rfl rfl (fun _ => rfl) rfl) ?_
                refine D_val rfl rfl rfl (R_index sl25 ty3 rfl rfl ⟨g5, by omega⟩) ?_
                refine D_val rfl rfl rfl (R_loadH ty3 rfl (hto2.mono (hV.trans hva)) rfl (fun _ => rfl) rfl) ?_
                refine D_val rfl rfl rfl (R_build z85 pl85 rfl rfl) ?_
                refine D_alloc rfl rfl rfl (A_buildSlice (vs := [.agg #[.int .i64 a.rules[k].sym, .slice xa3 a.rules[k].args.length xcp3, .int .i64 (newA a a.rules[k].to)]]) sl48 ty85 z85 rfl rfl (by simp [Value.cells]) (by simp) rfl (by decide)) fun b130 => ?_
                refine D_append1 1 ap48 rfl rfl rfl rfl rfl rfl ⟨⟨0, rfl⟩, ⟨1, rfl⟩, ⟨2, rfl⟩, ⟨3, rfl⟩, trivial⟩ rfl rfl ⟨by omega, by omega⟩ fun a131 k131 hn131 => ?_
                refine D_val rfl rfl rfl (R_fieldAddr 2 fd50_2 rfl) ?_
                refine D_lastStore ty48 2 rfl rfl rfl rfl rfl rfl rfl rfl ?_
                refine Q_block ?_
                refine Q_then ?_
                refine K_region ?_
                refine KV (R_add rfl rfl (by omega)) rfl ?_
                refine KV (R_move rfl) rfl ?_
                refine K_nil ?_
                refine KQ_sel [0, 1, 1, 1] rfl ?_
                have hyes : leftR a (a.rules.take (k + 1)) = leftR a (a.rules.take k) ++ [newR a a.rules[k]] := by rw [leftR_snoc hk', if_pos hke]
                refine Q_nextD (k + 1, V3, .slice a131 ((leftR a (a.rules.take k)).length + 1) k131, cells ++ [.int .i64 a.rules[k].sym, .slice xa3 a.rules[k].args.length xcp3, .int .i64 (newA a a.rules[k].to)]) ⟨hk', hV.trans hva, by rw [hyes]; exact (hC.imp fun x cs h => h.mono hva).snoc hRR rfl, _, _, by rw [hyes, List.length_append (bs := [_])]; rfl⟩ (by (try dsimp only); omega) ⟨rfl, trivial⟩ rfl (by dsimp only [List.set]; rw [hyes, List.length_append (bs := [_])]; rfl) rfl
        ·
          have hk' : k = a.rules.length := by omega
          subst hk'
          rw [List.take_length] at hC
          rw [List.take_length]
          refine K_exit ?_
          refine Q_then_exit ?_
          refine Q_then_exit ?_
          refine Q_block_exit ?_
          refine Q_then ?_
          refine K_seq ?_
          refine K_seq ?_
          refine K_region ?_
          refine KV (R_fieldAddr 3 fd50_3 rfl) rfl ?_
          refine KV (R_loadO ty25 3 rfl rfl rfl rfl (fun _ => rfl) rfl) rfl ?_
          refine KV (R_len sl25 rfl) rfl ?_
          refine KV (R_move rfl) rfl ?_
          refine K_nil ?_
          refine Q_then ?_
          refine K_block ?_
          refine KC_front 0 rfl ?_
          try dsimp only [List.eraseIdx]
          refine KC_pubrow rfl fun Ur hur hrowR => ?_
          skip
          have hvQ := hV
          have hvR := hur
          have hC := hC.imp fun x cs h => h.mono hur
          clear hV
          refine K_nilrow T3 1 ?_
          refine K_loopD (G := Nat × View × Value) [20, 137, 138, 139, 140, 141, 142, 143, 144, 145, 146, 147, 148, 149, 150, 151, 152, 153, 154] (fun g => [(137, .int .i64 (g.1 : Int))]) (fun hl g => ((hl.set 0 (row g.2.2 T3 1 (leftF a (a.final.take g.1)).length (ints (leftF a (a.final.take g.1))))).set 1 (blk b10 (.cells #[.slice cra a.ranks.length crc, .int .i64 ((cntN a a.states.toNat : Nat) : Int), .slice wa (leftR a a.rules).length wcp, g.2.2] T50 (0, 0))))) (fun g => g.2.1) (fun g => (g.1 ≤ a.final.length) ∧ (VLe Ur g.2.1) ∧ (∃ ad cp, g.2.2 = .slice ad (leftF a (a.final.take g.1)).length cp)) (fun g => a.final.length - g.1) (0, Ur, nilS) ⟨Nat.zero_le _, VLe.refl _, none, 0, rfl⟩ ⟨rfl, trivial⟩ (by simp only [args0, Nat.reduceAdd, del, memN, beqN, Nat.reduceBEq, cond_true, cond_false]; rfl) rfl rfl ?_
          rintro ⟨k, V, f⟩ ⟨hk, hV, hf⟩
          dsimp only at hk hV hf
          dsimp only [List.set, List.cons_append, List.nil_append]
          obtain ⟨fa, fcp, rfl⟩ := hf
          have hlb := leftF_len a (a.final.take k)
          rw [List.length_take] at hlb
          refine K_seq ?_
          refine K_region ?_
          refine KV (R_cmp rfl rfl rfl) rfl ?_
          refine K_nil ?_
          refine Q_then ?_
          refine K_seq ?_
          refine K_if rfl (fun h138 => ?_) (fun h138 => ?_)
          ·
            have hk' : k < a.final.length := by omega
            obtain ⟨fb, fo, hfe, hfk⟩ := (ha.mono (hvX.trans (hvQ.trans (hvR.trans hV)))).f.get hk'
            cases hfe
            have hqk := hok.fi _ (List.getElem_mem hk')
            refine K_skip ?_
            refine Q_then ?_
            refine K_seq ?_
            refine K_block ?_
            refine K_seq ?_
            refine K_region ?_
            refine KV (R_indexN sl25 ty3 rfl rfl (by omega)) rfl ?_
            refine KV (R_loadH ty3 rfl (hfk) rfl (fun _ => rfl) rfl) rfl ?_
            refine KV (R_assign rfl) rfl ?_
            refine K_nil ?_
            refine Q_then ?_
            refine K_seq ?_
            refine K_region ?_
            refine KV (R_move rfl) rfl ?_
            refine KV (R_move rfl) rfl ?_
            refine K_callO (first := []) [] _ (List.Perm.refl _) c2059 rfl rfl rfl (gone_spec a a.states.toNat b11 b57 a.final[k] V (by omega) (hA11.mono (hvQ.trans (hvR.trans hV))) (htab.mono (hvQ.trans (hvR.trans hV))) ⟨hqk.1, by omega⟩).nil ?_
            rintro _ V1 q143 hv1 ⟨rfl, rfl⟩
            dsimp only [List.nil_append]
            refine KV (R_not rfl) rfl ?_
            refine K_nil ?_
            refine Q_then ?_
            refine K_ifB rfl (fun h144 => ?_) (fun h144 => ?_)
            ·
              have hst : stayA a a.final[k] = true := by simpa using h144
              have hto3 := htab.fn (q := a.final[k]) (by omega)
              rw [toF_full (by omega), newV_new hst hqk.1] at hto3
              refine K_regionD (fin := true) (R := [0, 1, 2, 3, 4, 5, 6, 7, 8, 9]) (by kernel_rfl) mixed (.cons _ (.cons_cons _ (.cons_cons _ (.cons_cons _ (List.nil_sublist _))))) ?_
              refine D_val rfl rfl rfl (R_fieldAddr 3 fd50_3 rfl) ?_
              refine D_val rfl rfl rfl (R_loadO ty25 0 rfl rfl rfl rfl (fun _ => rfl) rfl) ?_
              refine D_val rfl rfl rfl (R_loadH ty25 rfl (hA11.mono (hvQ.trans (hvR.trans (hV.trans hv1)))) rfl (fun _ => rfl) rfl) ?_
              refine D_val rfl rfl rfl (R_move rfl) ?_
              refine D_val rfl rfl rfl (R_index sl25 ty3 rfl rfl ⟨hqk.1, by omega⟩) ?_
              refine D_val rfl rfl rfl (R_loadH ty3 rfl (hto3.mono (hvQ.trans (hvR.trans (hV.trans hv1)))) rfl (fun _ => rfl) rfl) ?_
              refine D_alloc rfl rfl rfl (A_buildSlice (vs := [.int .i64 (newA a a.final[k])]) sl25 ty3 z3 rfl rfl (by simp [Value.cells]) (by simp) rfl (by decide)) fun b151 => ?_
              refine D_append1 0 ap25 rfl rfl rfl rfl rfl rfl ⟨⟨0, rfl⟩, ⟨1, rfl⟩, ⟨2, rfl⟩, trivial⟩ rfl rfl ⟨by omega, by omega⟩ fun a152 k152 hn152 => ?_
              refine D_val rfl rfl rfl (R_fieldAddr 3 fd50_3 rfl) ?_
              refine D_lastStore ty25 1 rfl rfl rfl rfl rfl rfl rfl rfl ?_
              refine Q_block ?_
              refine Q_then ?_
              refine K_region ?_
              refine KV (R_add rfl rfl (by omega)) rfl ?_
              refine KV (R_move rfl) rfl ?_
              refine K_nil ?_
              have hyes : leftF a (a.final.take (k + 1)) = leftF a (a.final.take k) ++ [newA a a.final[k]] := by rw [leftF_snoc hk', if_pos hst]
              refine Q_nextD (k + 1, V1, .slice a152 ((leftF a (a.final.take k)).length + 1) k152) ⟨hk', hV.trans hv1, _, _, by rw [hyes, List.length_append (bs := [_])]; rfl⟩ (by (try dsimp only); omega) ⟨rfl, trivial⟩ rfl (by dsimp only [List.set]; rw [hyes, List.length_append (bs := [_]), ints_snoc]; rfl) rfl
            ·
              have hst : stayA a a.final[k] = false := by simpa using h144
              refine K_skip ?_
              refine Q_block ?_
              refine Q_then ?_
              refine K_region ?_
              refine KV (R_add rfl rfl (by omega)) rfl ?_
              refine KV (R_move rfl) rfl ?_
              refine K_nil ?_
              have hno : leftF a (a.final.take (k + 1)) = leftF a (a.final.take k) := by rw [leftF_snoc hk', if_neg (by rw [hst]; decide), List.append_nil]
              refine Q_nextD (k + 1, V1, .slice fa (leftF a (a.final.take k)).length fcp) ⟨hk', hV.trans hv1, _, _, by rw [hno]⟩ (by (try dsimp only); omega) ⟨rfl, trivial⟩ rfl (by dsimp only [List.set]; rw [hno]) rfl
          ·
            have hk' : k = a.final.length := by omega
            subst hk'
            rw [List.take_length]
            refine K_exit ?_
            refine Q_then_exit ?_
            refine Q_then_exit ?_
            refine Q_block_exit ?_
            refine Q_then ?_
            refine K_seq ?_
            refine KC_front 0 rfl ?_
            try dsimp only [List.eraseIdx]
            refine KC_pubrow rfl fun Uz huz hrowF => ?_
            skip
            have hI : RepAu Uz (trimA a) (.slice cra a.ranks.length crc) (.slice wa (leftR a a.rules).length wcp) (.slice fa (leftF a a.final).length fcp) := by
              have hv7 := hvR.trans (hV.trans huz)
              refine ⟨hcr.mono (hvQ.trans hv7), ⟨cells, hrowR.sl.mono (hV.trans huz), hC.imp fun x cs h => h.mono (hV.trans huz)⟩, ⟨hrowF.sl, fun x hx => ?_⟩, by show i64ok ((cntN a a.states.toNat : Nat) : Int); simp only [i64ok]; omega, hrl, Nat.le_trans (leftR_len a a.rules) hul, Nat.le_trans (leftF_len a a.final) hfl⟩
              obtain ⟨y, hy, rfl⟩ := List.mem_map.1 (show x ∈ leftF a a.final from hx)
              obtain ⟨hy1, hy2⟩ := List.mem_filter.1 hy
              have hnb2 := newA_bound hy2 (hok.fi y hy1)
              simp only [i64ok]; omega
            refine K_region ?_
            refine KV (R_loadW ty50 0 rfl rfl rfl rfl) rfl ?_
            refine K_call c2045 rfl rfl (sortedS_spec (trimA a) _ _ _ Uz hI) ?_
            rintro _ V9 hv9 ⟨s1, s2, s3, rfl, hS⟩
            obtain ⟨sr, src, rfl⟩ := hS.r.shape
            obtain ⟨sf, sfc, rfl⟩ := hS.f.shape
            obtain ⟨su, suc, rfl⟩ := hS.ushape
            refine K_storeW ty50 1 rfl rfl rfl rfl rfl rfl rfl ?_
            refine KV (R_assign rfl) rfl ?_
            refine K_nil ?_
            refine Q_then ?_
            refine K_ret ?_
            refine results_gen (rs := [.cell 2 37, .tmp 3]) (vs := [_, _]) rfl ⟨⟨_, _, _, _, _, _, 1, rfl, rfl, ty50, (fun e => by cases e), rfl, rfl⟩, ⟨rfl, trivial⟩⟩ ?_
            rw [hae, errAu_ok rfl]
            exact ⟨_, _, _, rfl, hS⟩
end Go.Proofs.X

namespace Go.Proofs.X
open Go Pal Go.Proofs
attribute [local irreducible] Pal.KO Pal.KC Pal.KQ Pal.KD

theorem all_spec (m : List Bool) (n : Nat) (qs : List Int) (v : Value) (bm : Nat) (H : View) (hn : m.length = n) (hnl : n ≤ 65536) (hv : SI H v qs) (hql : qs.length ≤ 1099511627776) (hm : At H bm 0 (mkL m).toList) (hq : ∀ q ∈ qs, 0 ≤ q ∧ q < (n : Int)) : Sat Tryz.prog F2060 #[v, slc n bm] H (fun r _ => r = .bool (qs.all (onL m))) := by
  obtain ⟨va, vc, rfl⟩ := hv.shape
  refine enterO (n := 20) (args := [.slice va qs.length vc, slc n bm]) Tryz.func87 rfl rfl rfl fun w0 => ?_
  refine K_seq ?_
  refine K_region ?_
  refine KV (R_assign rfl) rfl ?_
  refine K_nil ?_
  refine Q_then ?_
  refine K_seq ?_
  refine K_seq ?_
  refine K_region ?_
  refine KV (R_assign rfl) rfl ?_
  refine K_nil ?_
  refine Q_then ?_
  refine K_block ?_
  refine K_loopD (G := Nat) [4, 5, 6, 7, 8, 9, 10, 11, 12, 13, 14, 15, 16, 17, 18, 19] (fun g => [(5, .int .i64 (g : Int))]) (fun hl g => hl) (fun g => H) (fun g => (g ≤ qs.length) ∧ (∀ x ∈ qs.take g, onL m x = true)) (fun g => qs.length - g) (0 : Nat) ⟨Nat.zero_le _, fun x hx => by cases hx⟩ ⟨rfl, trivial⟩ (by simp only [args0, Nat.reduceAdd, del, memN, beqN, Nat.reduceBEq, cond_true, cond_false]; rfl) rfl rfl ?_
  rintro k ⟨hk, hall⟩
  try dsimp only at hk
  try dsimp only at hall
  dsimp only [List.set, List.cons_append, List.nil_append]
  refine K_seq ?_
  refine K_seq ?_
  refine K_region ?_
  refine KV (R_move rfl) rfl ?_
  refine KV (R_move rfl) rfl ?_
  refine KV (R_len sl25 rfl) rfl ?_
  refine KV (R_cmp rfl rfl rfl) rfl ?_
  refine K_nil ?_
  refine Q_then ?_
  refine K_if rfl (fun h9 => ?_) (fun h9 => ?_)
  ·
    have hk' : k < qs.length := by omega
    obtain ⟨tb, to_, hte, hxk⟩ := hv.get hk'
    cases hte
    have hqk := hq _ (List.getElem_mem hk')
    have hmk := hm.mark (q := qs[k]) (by omega)
    refine K_skip ?_
    refine Q_then ?_
    refine K_seq ?_
    refine K_block ?_
    refine K_seq ?_
    refine K_region ?_
    refine KV (R_move rfl) rfl ?_
    refine KV (R_move rfl) rfl ?_
    refine KV (R_move rfl) rfl ?_
    refine KV (R_indexN sl25 ty3 rfl rfl (by omega)) rfl ?_
    refine KV (R_loadH ty3 rfl (hxk) rfl (fun _ => rfl) rfl) rfl ?_
    refine KV (R_index sl52 ty4 rfl rfl ⟨hqk.1, by omega⟩) rfl ?_
    refine KV (R_loadH ty4 rfl (hmk) rfl (fun _ => rfl) rfl) rfl ?_
    refine KV (R_not rfl) rfl ?_
    refine K_nil ?_
    refine Q_then ?_
    refine K_ifB rfl (fun h19 => ?_) (fun h19 => ?_)
    ·
      have hoff : onL m qs[k] = false := by simpa using h19
      refine K_seq ?_
      refine K_region ?_
      refine KV (R_assign rfl) rfl ?_
      refine K_nil ?_
      refine Q_then ?_
      refine K_ret ?_
      refine Q_block_ret ?_
      refine Q_then_ret ?_
      refine Q_then_ret ?_
      refine Q_block_ret ?_
      refine Q_then_ret ?_
      refine results_gen (rs := [.tmp 4]) (vs := [_]) rfl ⟨rfl, trivial⟩ ?_
      exact congrArg Value.bool (List.all_eq_false.2 ⟨_, List.getElem_mem hk', by rw [hoff]; decide⟩).symm
    ·
      have hon : onL m qs[k] = true := by simpa using h19
      refine K_skip ?_
      refine Q_block ?_
      refine Q_then ?_
      refine K_region ?_
      refine KV (R_move rfl) rfl ?_
      refine KV (R_add rfl rfl (by omega)) rfl ?_
      refine KV (R_assign rfl) rfl ?_
      refine K_nil ?_
      refine Q_nextD ((k + 1)) ⟨hk', fun x hx => by rw [List.take_succ_eq_append_getElem hk'] at hx; exact (List.mem_append.1 hx).elim (hall x) fun h => by rw [List.mem_singleton.1 h]; exact hon⟩ (by (try dsimp only); omega) ⟨rfl, trivial⟩ rfl rfl rfl
  ·
    have hk' : k = qs.length := by omega
    subst hk'
    rw [List.take_length] at hall
    refine K_exit ?_
    refine Q_then_exit ?_
    refine Q_then_exit ?_
    refine Q_block_exit ?_
    refine Q_then ?_
    refine K_seq ?_
    refine K_region ?_
    refine KV (R_assign rfl) rfl ?_
    refine K_nil ?_
    refine Q_then ?_
    refine K_ret ?_
    refine results_gen (rs := [.tmp 4]) (vs := [_]) rfl ⟨rfl, trivial⟩ ?_
    exact congrArg Value.bool (List.all_eq_true.2 hall).symm

theorem all_specO (m : List Bool) (n : Nat) (qs : List Int) (v : Value) (bm : Nat) (H : View) (hn : m.length = n) (hnl : n ≤ 65536) (hv : SI H v qs) (hql : qs.length ≤ 1099511627776) (hm : At H bm 0 (mkL m).toList) (hq : ∀ q ∈ qs, 0 ≤ q ∧ q < (n : Int)) : Sat Tryz.prog F2060 ([] ++ [v, slc n bm] ++ []).toArray H (fun r _ => r = .bool (qs.all (onL m))) := all_spec m n qs v bm H hn hnl hv hql hm hq
end Go.Proofs.X

namespace Go.Proofs.X
open Go Pal Go.Proofs
attribute [local irreducible] Pal.KO Pal.KC Pal.KQ Pal.KD
theorem c2060 : callable Tryz.prog F2060 = true := by kernel_rfl
set_option maxRecDepth 4000 in
set_option maxHeartbeats 2000000 in
theorem rtrim_spec (a : Au) (v1 v2 v3 : Value) (H : View) (ha : RepAu H a v1 v2 v3) (hoA : AuOk a) (hfl8 : a.final.length ≤ 1048576) : Sat Tryz.prog F2030 #[.agg #[v1, .int .i64 a.states, v2, v3]] H (fun r H' => ∃ v1 v2 v3, r = .agg #[v1, .int .i64 (trimA a).states, v2, v3] ∧ RepAu H' (sortedM (trimA a)) v1 v2 v3) := by
  obtain ⟨ar, arc, rfl⟩ := ha.r.shape
  obtain ⟨af, afc, rfl⟩ := ha.f.shape
  obtain ⟨au, auc, rfl⟩ := ha.ushape
  have hab := ha.b
  have hrl := ha.rl
  have hul := hoA.ul
  have hfl := ha.fl
  have haA := hoA.args2
  obtain ⟨hst0, hst1⟩ := hoA.st
  have hns : a.states = ((a.states.toNat : Nat) : Int) := by omega
  have hnb : a.states.toNat ≤ 256 := by omega
  have hn0 : (noneL a.states.toNat).length = a.states.toNat := List.length_replicate ..
  refine enterO (n := 261) (args := [.agg #[.slice ar a.ranks.length arc, .int .i64 a.states, .slice au a.rules.length auc, .slice af a.final.length afc]]) Tryz.func41 rfl rfl rfl fun w0 => ?_
  refine K_seq ?_
  refine K_region ?_
  refine KA (A_box rfl) rfl fun b1 => ?_
  refine KA (A_alloc z42) rfl fun b2 => ?_
  refine K_nil ?_
  refine Q_then ?_
  refine K_seq ?_
  refine K_regionD (fin := false) (R := [0, 1, 3, 4, 2, 6, 5, 7]) (by kernel_rfl) mixed (.cons_cons _ (.cons_cons _ (List.nil_sublist _))) ?_
  refine D_val rfl rfl rfl (R_fieldAddr 1 fd42_1 rfl) ?_
  refine D_val rfl rfl rfl (R_loadO ty3 1 rfl rfl rfl rfl (fun _ => rfl) rfl) ?_
  refine D_val rfl rfl rfl (R_fieldAddr 1 fd42_1 rfl) ?_
  refine D_val rfl rfl rfl (R_loadO ty3 1 rfl rfl rfl rfl (fun _ => rfl) rfl) ?_
  refine D_makeSlice rfl rfl rfl ⟨⟨0, rfl⟩, ⟨1, rfl⟩, trivial⟩ (A_makeSlice (k := a.states.toNat) ap52 z4 ty4 (congrArg (fun z => some (Value.int .i64 z)) hns) (congrArg (fun z => some (Value.int .i64 z)) hns) (by omega) (by omega)) fun b22 => ?_
  refine D_val rfl rfl rfl (R_assign rfl) ?_
  refine D_makeSlice rfl rfl rfl ⟨⟨1, rfl⟩, ⟨2, rfl⟩, trivial⟩ (A_makeSlice (k := a.states.toNat) ap52 z4 ty4 (congrArg (fun z => some (Value.int .i64 z)) hns) (congrArg (fun z => some (Value.int .i64 z)) hns) (by omega) (by omega)) fun b25 => ?_
  refine D_val rfl rfl rfl (R_assign rfl) ?_
  refine D_done ?_
  rw [show madeCells (Value.bool false).cells (a.states.toNat * 1) = mkL (noneL a.states.toNat) from mkL_made _]
  refine Q_then ?_
  refine K_seq ?_
  refine K_seq ?_
  refine K_region ?_
  refine KV (R_assign rfl) rfl ?_
  refine K_nil ?_
  refine Q_then ?_
  refine K_block ?_
  refine K_loopD (G := Nat) [5, 26, 27, 28, 29, 30, 31, 32, 33, 34, 35, 36, 37, 38, 39] (fun g => [(5, .int .i64 (g : Int))]) (fun hl g => (hl.set 0 (blk b25 (.cells (mkL (setsL (noneL a.states.toNat) (a.final.take g))) T4 (0, 0))))) (fun g => H) (fun g => (g ≤ a.final.length)) (fun g => a.final.length - g) (0 : Nat) (Nat.zero_le _) ⟨rfl, trivial⟩ (by simp only [args0, Nat.reduceAdd, del, memN, beqN, Nat.reduceBEq, cond_true, cond_false]; rfl) rfl rfl ?_
  rintro k hk
  try dsimp only at hk
  dsimp only [List.set, List.cons_append, List.nil_append]
  have hsl : (setsL (noneL a.states.toNat) (a.final.take k)).length = a.states.toNat := (setsL_len _ _).trans hn0
  refine K_seq ?_
  refine K_seq ?_
  refine K_region ?_
  refine KV (R_move rfl) rfl ?_
  refine KV (R_fieldAddr 3 fd42_3 rfl) rfl ?_
  refine KV (R_loadO ty25 3 rfl rfl rfl rfl (fun _ => rfl) rfl) rfl ?_
  refine KV (R_len sl25 rfl) rfl ?_
  refine KV (R_cmp rfl rfl rfl) rfl ?_
  refine K_nil ?_
  refine Q_then ?_
  refine K_if rfl (fun h30 => ?_) (fun h30 => ?_)
  ·
    have hk' : k < a.final.length := by omega
    obtain ⟨fb, fo, hfe, hfk⟩ := ha.f.get hk'
    cases hfe
    have hqk := hoA.fi _ (List.getElem_mem hk')
    refine K_skip ?_
    refine Q_then ?_
    refine K_seq ?_
    refine K_block ?_
    refine K_region ?_
    refine KV (R_move rfl) rfl ?_
    refine KV (R_fieldAddr 3 fd42_3 rfl) rfl ?_
    refine KV (R_loadO ty25 3 rfl rfl rfl rfl (fun _ => rfl) rfl) rfl ?_
    refine KV (R_move rfl) rfl ?_
    refine KV (R_indexN sl25 ty3 rfl rfl (by omega)) rfl ?_
    refine KV (R_loadH ty3 rfl (hfk) rfl (fun _ => rfl) rfl) rfl ?_
    refine KV (R_index sl52 ty4 rfl rfl ⟨hqk.1, by omega⟩) rfl ?_
    refine K_storeE ty4 0 rfl rfl rfl rfl (by rw [mkL_size]; show _ + 1 ≤ _; omega) rfl (mkL_put (q := a.final[k]) (by omega) (by omega)) ?_
    refine K_nil ?_
    refine Q_block ?_
    refine Q_then ?_
    refine K_region ?_
    refine KV (R_move rfl) rfl ?_
    refine KV (R_add rfl rfl (by omega)) rfl ?_
    refine KV (R_assign rfl) rfl ?_
    refine K_nil ?_
    refine Q_nextD ((k + 1)) hk' (by (try dsimp only); omega) ⟨rfl, trivial⟩ rfl (by dsimp only [List.set]; rw [setsL_snoc hk']) rfl
  ·
    have hk' : k = a.final.length := by omega
    subst hk'
    rw [List.take_length, finL_is]
    refine K_exit ?_
    refine Q_then_exit ?_
    refine Q_then_exit ?_
    refine Q_block_exit ?_
    refine Q_then ?_
    refine K_seq ?_
    refine K_seq ?_
    refine K_region ?_
    refine KV (R_assign rfl) rfl ?_
    refine K_nil ?_
    refine Q_then ?_
    refine K_block ?_
    refine K_loopD (G := Nat) [6, 7, 40, 41, 42, 43, 44, 45, 46, 47, 48, 49, 50, 51, 52, 53, 54, 55, 56, 57, 58, 59, 60, 61, 62, 63, 64, 65, 66, 67, 68] (fun g => [(6, .int .i64 (g : Int))]) (fun hl g => (hl.set 1 (blk b22 (.cells (mkL (iterF (comeF a.rules) g (noneL a.states.toNat))) T4 (0, 0))))) (fun g => H) (fun g => (g ≤ a.states.toNat + 1)) (fun g => a.states.toNat + 1 - g) (0 : Nat) (Nat.zero_le _) ⟨rfl, trivial⟩ (by simp only [args0, Nat.reduceAdd, del, memN, beqN, Nat.reduceBEq, cond_true, cond_false]; rfl) rfl rfl ?_
    rintro r hr
    try dsimp only at hr
    dsimp only [List.set, List.cons_append, List.nil_append]
    have hml : (iterF (comeF a.rules) r (noneL a.states.toNat)).length = a.states.toNat := (up_iter (up_comeF a.rules) (noneL a.states.toNat) r).len.trans hn0
    refine K_seq ?_
    refine K_seq ?_
    refine K_region ?_
    refine KV (R_move rfl) rfl ?_
    refine KV (R_fieldAddr 1 fd42_1 rfl) rfl ?_
    refine KV (R_loadO ty3 3 rfl rfl rfl rfl (fun _ => rfl) rfl) rfl ?_
    refine KV (R_cmp rfl rfl rfl) rfl ?_
    refine K_nil ?_
    refine Q_then ?_
    refine K_if rfl (fun h43 => ?_) (fun h43 => ?_)
    ·
      have hr' : r + 1 ≤ a.states.toNat + 1 := by omega
      refine K_skip ?_
      refine Q_then ?_
      refine K_seq ?_
      refine K_block ?_
      refine K_seq ?_
      refine K_region ?_
      refine KV (R_assign rfl) rfl ?_
      refine K_nil ?_
      refine Q_then ?_
      refine K_block ?_
      refine K_loopD (G := Nat) [7, 46, 47, 48, 49, 50, 51, 52, 53, 54, 55, 56, 57, 58, 59, 60, 61, 62, 63, 64, 65, 66, 67, 68] (fun g => [(7, .int .i64 (g : Int))]) (fun hl g => (hl.set 1 (blk b22 (.cells (mkL ((a.rules.take g).foldl comeS (iterF (comeF a.rules) r (noneL a.states.toNat)))) T4 (0, 0))))) (fun g => H) (fun g => (g ≤ a.rules.length)) (fun g => a.rules.length - g) (0 : Nat) (Nat.zero_le _) ⟨rfl, trivial⟩ (by simp only [args0, Nat.reduceAdd, del, memN, beqN, Nat.reduceBEq, cond_true, cond_false]; rfl) rfl rfl ?_
      rintro i hi
      try dsimp only at hi
      dsimp only [List.set, List.cons_append, List.nil_append]
      have hml2 : (((a.rules.take i).foldl comeS (iterF (comeF a.rules) r (noneL a.states.toNat)))).length = a.states.toNat := (up_fold up_comeS (a.rules.take i) _).len.trans hml
      refine K_seq ?_
      refine K_seq ?_
      refine K_region ?_
      refine KV (R_move rfl) rfl ?_
      refine KV (R_fieldAddr 2 fd42_2 rfl) rfl ?_
      refine KV (R_loadO ty40 3 rfl rfl rfl rfl (fun _ => rfl) rfl) rfl ?_
      refine KV (R_len sl40 rfl) rfl ?_
      refine KV (R_cmp rfl rfl rfl) rfl ?_
      refine K_nil ?_
      refine Q_then ?_
      refine K_if rfl (fun h50 => ?_) (fun h50 => ?_)
      ·
        have hi' : i < a.rules.length := by omega
        obtain ⟨xb, xo, xq, xx, xy, xe, xc, xs, xt, xw, xl⟩ := ha.rule hi'
        cases xe
        obtain ⟨k1, k2, k3, k4, k5, k6⟩ := hoA.ru _ (List.getElem_mem hi')
        refine K_skip ?_
        refine Q_then ?_
        refine K_seq ?_
        refine K_block ?_
        refine K_seq ?_
        refine K_region ?_
        refine KV (R_fieldAddr 2 fd42_2 rfl) rfl ?_
        refine KV (R_loadO ty40 3 rfl rfl rfl rfl (fun _ => rfl) rfl) rfl ?_
        refine KV (R_move rfl) rfl ?_
        refine KV (R_indexN sl40 ty100 rfl rfl (by omega)) rfl ?_
        refine KV (R_fieldAddr 1 fd100_1 rfl) rfl ?_
        refine KV (R_loadH ty25 rfl (At.one (j := 1) xc rfl) rfl (fun _ => rfl) rfl) rfl ?_
        refine KV (R_move rfl) rfl ?_
        refine KO_sel [1, 0, 0, 0] rfl ?_
        refine K_callO (first := []) (captured := []) (vs := [.slice _ a.rules[i].args.length xy, slc a.states.toNat b22]) [_] _ (List.Perm.refl _) c2060 rfl rfl rfl (Sat.lend (blk b22 (.cells (mkL ((a.rules.take i).foldl comeS (iterF (comeF a.rules) r (noneL a.states.toNat)))) T4 (0, 0))) fun H2 hle hh => all_specO ((a.rules.take i).foldl comeS (iterF (comeF a.rules) r (noneL a.states.toNat))) a.states.toNat a.rules[i].args _ b22 H2 hml2 (by omega) (xs.mono hle) xl (At.of hh) (fun q hq => by have := k4 q hq; omega)) ?_
        rintro _ V1 q1 hv1 ⟨rfl, rfl, rfl⟩
        dsimp only [List.cons_append, List.nil_append]
        refine K_nil ?_
        refine Q_then ?_
        refine K_ifB rfl (fun h60 => ?_) (fun h60 => ?_)
        ·
          refine K_region ?_
          refine KV (R_move rfl) rfl ?_
          refine KV (R_fieldAddr 2 fd42_2 rfl) rfl ?_
          refine KV (R_loadO ty40 3 rfl rfl rfl rfl (fun _ => rfl) rfl) rfl ?_
          refine KV (R_move rfl) rfl ?_
          refine KV (R_indexN sl40 ty100 rfl rfl (by omega)) rfl ?_
          refine KV (R_fieldAddr 2 fd100_2 rfl) rfl ?_
          refine KV (R_loadH ty3 rfl (At.one (j := 2) xc rfl) rfl (fun _ => rfl) rfl) rfl ?_
          refine KV (R_index sl52 ty4 rfl rfl ⟨k5, by omega⟩) rfl ?_
          refine K_storeE ty4 0 rfl rfl rfl rfl (by rw [mkL_size]; show _ + 1 ≤ _; omega) rfl (mkL_put (q := a.rules[i].to) (by omega) (by omega)) ?_
          refine K_nil ?_
          refine Q_block ?_
          refine Q_then ?_
          refine K_region ?_
          refine KV (R_move rfl) rfl ?_
          refine KV (R_add rfl rfl (by omega)) rfl ?_
          refine KV (R_assign rfl) rfl ?_
          refine K_nil ?_
          refine KQ_sel [1, 0, 0, 0] rfl ?_
          refine Q_nextD ((i + 1)) hi' (by (try dsimp only); omega) ⟨rfl, trivial⟩ rfl (by (try dsimp only [List.set]); rw [fold_take comeS hi', come_if h60]) rfl
        ·
          refine K_skip ?_
          refine Q_block ?_
          refine Q_then ?_
          refine K_region ?_
          refine KV (R_move rfl) rfl ?_
          refine KV (R_add rfl rfl (by omega)) rfl ?_
          refine KV (R_assign rfl) rfl ?_
          refine K_nil ?_
          refine KQ_sel [1, 0, 0, 0] rfl ?_
          refine Q_nextD ((i + 1)) hi' (by (try dsimp only); omega) ⟨rfl, trivial⟩ rfl (by (try dsimp only [List.set]); rw [fold_take comeS hi', come_not h60]) rfl
      ·
        have hi' : i = a.rules.length := by omega
        subst hi'
        rw [List.take_length]
        refine K_exit ?_
        refine Q_then_exit ?_
        refine Q_then_exit ?_
        refine Q_block_exit ?_
        refine Q_block ?_
        refine Q_then ?_
        refine K_region ?_
        refine KV (R_move rfl) rfl ?_
        refine KV (R_add rfl rfl (by omega)) rfl ?_
        refine KV (R_assign rfl) rfl ?_
        refine K_nil ?_
        refine Q_nextD ((r + 1)) hr' (by (try dsimp only); omega) ⟨rfl, trivial⟩ rfl rfl rfl
    ·
      have hr' : r = a.states.toNat + 1 := by omega
      subst hr'
      rw [show iterF (comeF a.rules) (a.states.toNat + 1) (noneL a.states.toNat) = comeA a from rfl]
      refine K_exit ?_
      refine Q_then_exit ?_
      refine Q_then_exit ?_
      refine Q_block_exit ?_
      refine Q_then ?_
      refine K_seq ?_
      refine K_seq ?_
      refine K_region ?_
      refine KV (R_assign rfl) rfl ?_
      refine K_nil ?_
      refine Q_then ?_
      refine K_block ?_
      refine K_loopD (G := Nat) [8, 9, 10, 11, 69, 70, 71, 72, 73, 74, 75, 76, 77, 78, 79, 80, 81, 82, 83, 84, 85, 86, 87, 88, 89, 90, 91, 92, 93, 94, 95, 96, 97, 98, 99, 100, 101, 102, 103, 104, 105, 106, 107, 108, 109, 110, 111, 112, 113] (fun g => [(8, .int .i64 (g : Int))]) (fun hl g => (hl.set 0 (blk b25 (.cells (mkL (iterF (leadF (comeA a) a.rules) g (finL a.final a.states.toNat))) T4 (0, 0))))) (fun g => H) (fun g => (g ≤ a.states.toNat + 1)) (fun g => a.states.toNat + 1 - g) (0 : Nat) (Nat.zero_le _) ⟨rfl, trivial⟩ (by simp only [args0, Nat.reduceAdd, del, memN, beqN, Nat.reduceBEq, cond_true, cond_false]; rfl) rfl rfl ?_
      rintro r hr
      try dsimp only at hr
      dsimp only [List.set, List.cons_append, List.nil_append]
      have hml : ((iterF (leadF (comeA a) a.rules) r (finL a.final a.states.toNat))).length = a.states.toNat := (up_iter (up_leadF (comeA a) a.rules) _ r).len.trans (finL_len _ _)
      refine K_seq ?_
      refine K_seq ?_
      refine K_region ?_
      refine KV (R_move rfl) rfl ?_
      refine KV (R_fieldAddr 1 fd42_1 rfl) rfl ?_
      refine KV (R_loadO ty3 3 rfl rfl rfl rfl (fun _ => rfl) rfl) rfl ?_
      refine KV (R_cmp rfl rfl rfl) rfl ?_
      refine K_nil ?_
      refine Q_then ?_
      refine K_if rfl (fun h72 => ?_) (fun h72 => ?_)
      ·
        have hr' : r + 1 ≤ a.states.toNat + 1 := by omega
        refine K_skip ?_
        refine Q_then ?_
        refine K_seq ?_
        refine K_block ?_
        refine K_seq ?_
        refine K_region ?_
        refine KV (R_assign rfl) rfl ?_
        refine K_nil ?_
        refine Q_then ?_
        refine K_block ?_
        refine K_loopD (G := Nat) [9, 10, 11, 75, 76, 77, 78, 79, 80, 81, 82, 83, 84, 85, 86, 87, 88, 89, 90, 91, 92, 93, 94, 95, 96, 97, 98, 99, 100, 101, 102, 103, 104, 105, 106, 107, 108, 109, 110, 111, 112, 113] (fun g => [(9, .int .i64 (g : Int))]) (fun hl g => (hl.set 0 (blk b25 (.cells (mkL ((a.rules.take g).foldl (leadS (comeA a)) (iterF (leadF (comeA a) a.rules) r (finL a.final a.states.toNat)))) T4 (0, 0))))) (fun g => H) (fun g => (g ≤ a.rules.length)) (fun g => a.rules.length - g) (0 : Nat) (Nat.zero_le _) ⟨rfl, trivial⟩ (by simp only [args0, Nat.reduceAdd, del, memN, beqN, Nat.reduceBEq, cond_true, cond_false]; rfl) rfl rfl ?_
        rintro i hi
        try dsimp only at hi
        dsimp only [List.set, List.cons_append, List.nil_append]
        have hml2 : (((a.rules.take i).foldl (leadS (comeA a)) (iterF (leadF (comeA a) a.rules) r (finL a.final a.states.toNat)))).length = a.states.toNat := (up_fold (up_leadS (comeA a)) (a.rules.take i) _).len.trans hml
        refine K_seq ?_
        refine K_seq ?_
        refine K_region ?_
        refine KV (R_move rfl) rfl ?_
        refine KV (R_fieldAddr 2 fd42_2 rfl) rfl ?_
        refine KV (R_loadO ty40 3 rfl rfl rfl rfl (fun _ => rfl) rfl) rfl ?_
        refine KV (R_len sl40 rfl) rfl ?_
        refine KV (R_cmp rfl rfl rfl) rfl ?_
        refine K_nil ?_
        refine Q_then ?_
        refine K_if rfl (fun h79 => ?_) (fun h79 => ?_)
        ·
          have hi' : i < a.rules.length := by omega
          obtain ⟨xb, xo, xq, xx, xy, xe, xc, xs, xt, xw, xl⟩ := ha.rule hi'
          cases xe
          obtain ⟨k1, k2, k3, k4, k5, k6⟩ := hoA.ru _ (List.getElem_mem hi')
          refine K_skip ?_
          refine Q_then ?_
          refine K_seq ?_
          refine K_block ?_
          refine K_seq ?_
          refine K_region ?_
          refine KV (R_fieldAddr 2 fd42_2 rfl) rfl ?_
          refine KV (R_loadO ty40 3 rfl rfl rfl rfl (fun _ => rfl) rfl) rfl ?_
          refine KV (R_move rfl) rfl ?_
          refine KV (R_indexN sl40 ty100 rfl rfl (by omega)) rfl ?_
          refine KV (R_loadH ty100 rfl (xc) rfl (fun e => by cases e) rfl) rfl ?_
          refine KA (A_alloc z100) rfl fun b10 => ?_
          refine K_storeW ty100 0 rfl rfl rfl rfl rfl rfl rfl ?_
          refine K_nil ?_
          refine Q_then ?_
          refine K_seq ?_
          refine K_region ?_
          refine KV (R_assign rfl) rfl ?_
          refine K_nil ?_
          refine Q_then ?_
          refine K_block ?_
          refine K_loopD (G := Nat) [11, 87, 88, 89, 90, 91, 92, 93, 94, 95, 96, 97, 98, 99, 100, 101, 102, 103, 104, 105, 106, 107, 108, 109, 110, 111, 112, 113] (fun g => [(11, .int .i64 (g : Int))]) (fun hl g => (hl.set 1 (blk b25 (.cells (mkL (setsL ((a.rules.take i).foldl (leadS (comeA a)) (iterF (leadF (comeA a) a.rules) r (finL a.final a.states.toNat))) (a.rules[i].args.take g))) T4 (0, 0))))) (fun g => H) (fun g => (g ≤ a.rules[i].args.length) ∧ (g = 0 ∨ (onL ((a.rules.take i).foldl (leadS (comeA a)) (iterF (leadF (comeA a) a.rules) r (finL a.final a.states.toNat))) a.rules[i].to = true ∧ a.rules[i].args.all (onL (comeA a)) = true))) (fun g => a.rules[i].args.length - g) (0 : Nat) ⟨Nat.zero_le _, .inl rfl⟩ ⟨rfl, trivial⟩ (by simp only [args0, Nat.reduceAdd, del, memN, beqN, Nat.reduceBEq, cond_true, cond_false]; rfl) rfl rfl ?_
          rintro k ⟨hk, hin⟩
          try dsimp only at hk
          try dsimp only at hin
          dsimp only [List.set, List.cons_append, List.nil_append]
          have hml3 : (setsL ((a.rules.take i).foldl (leadS (comeA a)) (iterF (leadF (comeA a) a.rules) r (finL a.final a.states.toNat))) (a.rules[i].args.take k)).length = a.states.toNat := (setsL_len _ _).trans hml2
          refine K_seq ?_
          refine K_seq ?_
          refine K_region ?_
          refine KV (R_move rfl) rfl ?_
          refine KV (R_fieldAddr 1 fd100_1 rfl) rfl ?_
          refine KV (R_loadO ty25 0 rfl rfl rfl rfl (fun _ => rfl) rfl) rfl ?_
          refine KV (R_len sl25 rfl) rfl ?_
          refine KV (R_cmp rfl rfl rfl) rfl ?_
          refine KV (R_move rfl) rfl ?_
          refine K_split ?_ ?_
          ·
            intro h92
            have hk' : k < a.rules[i].args.length := by omega
            obtain ⟨tb, to_, hte, hxk⟩ := xs.get hk'
            cases hte
            have hqk := k4 _ (List.getElem_mem hk')
            refine K_gyes rfl rfl ?_
            refine KV (R_move rfl) rfl ?_
            refine K_gyes rfl rfl ?_
            refine KV (R_fieldAddr 2 fd100_2 rfl) rfl ?_
            refine K_gyes rfl rfl ?_
            refine KV (R_loadO ty3 0 rfl rfl rfl rfl (fun _ => rfl) rfl) rfl ?_
            refine K_gyes rfl rfl ?_
            refine KV (R_index sl52 ty4 rfl rfl ⟨k5, by omega⟩) rfl ?_
            refine K_gyes rfl rfl ?_
            refine KV (R_loadC ty4 1 rfl rfl (mkL_get (q := a.rules[i].to) (by omega) (by omega))) rfl ?_
            refine KV (R_pickT rfl rfl) rfl ?_
            refine KV (R_move rfl) rfl ?_
            refine K_splitB ?_ ?_
            ·
              intro h99
              refine K_gyes rfl rfl ?_
              refine KV (R_fieldAddr 1 fd100_1 rfl) rfl ?_
              refine K_gyes rfl rfl ?_
              refine KV (R_loadO ty25 0 rfl rfl rfl rfl (fun _ => rfl) rfl) rfl ?_
              refine K_gyes rfl rfl ?_
              refine KV (R_move rfl) rfl ?_
              refine K_gyes rfl rfl ?_
              refine KO_sel [2, 0, 0, 0, 0] rfl ?_
              refine K_callO (first := []) (captured := []) (vs := [.slice _ a.rules[i].args.length xy, slc a.states.toNat b22]) [_] _ (List.Perm.refl _) c2060 rfl rfl rfl (Sat.lend (blk b22 (.cells (mkL (comeA a)) T4 (0, 0))) fun H2 hle hh => all_specO (comeA a) a.states.toNat a.rules[i].args _ b22 H2 (comeA_len a) (by omega) (xs.mono hle) xl (At.of hh) (fun q hq => by have := k4 q hq; omega)) ?_
              rintro _ V1 q1 hv1 ⟨rfl, rfl, rfl⟩
              dsimp only [List.cons_append, List.nil_append]
              refine KV (R_pickT rfl rfl) rfl ?_
              refine K_nil ?_
              refine Q_then ?_
              refine K_ifB rfl (fun h104 => ?_) (fun h104 => ?_)
              ·
                have hin2 := lead_on hin h99 h104
                refine K_skip ?_
                refine Q_then ?_
                refine K_seq ?_
                refine K_block ?_
                refine K_region ?_
                refine KV (R_move rfl) rfl ?_
                refine KV (R_fieldAddr 1 fd100_1 rfl) rfl ?_
                refine KV (R_loadO ty25 1 rfl rfl rfl rfl (fun _ => rfl) rfl) rfl ?_
                refine KV (R_move rfl) rfl ?_
                refine KV (R_indexN sl25 ty3 rfl rfl (by omega)) rfl ?_
                refine KV (R_loadH ty3 rfl (hxk) rfl (fun _ => rfl) rfl) rfl ?_
                refine KV (R_index sl52 ty4 rfl rfl ⟨hqk.1, by omega⟩) rfl ?_
                refine K_storeE ty4 2 rfl rfl rfl rfl (by rw [mkL_size]; show _ + 1 ≤ _; omega) rfl (mkL_put (q := a.rules[i].args[k]) (by omega) (by omega)) ?_
                refine K_nil ?_
                refine Q_block ?_
                refine Q_then ?_
                refine K_region ?_
                refine KV (R_move rfl) rfl ?_
                refine KV (R_add rfl rfl (by omega)) rfl ?_
                refine KV (R_assign rfl) rfl ?_
                refine K_nil ?_
                refine KQ_sel [1, 1, 0, 0, 0] rfl ?_
                refine Q_nextD ((k + 1)) ⟨hk', .inr hin2⟩ (by (try dsimp only); omega) ⟨rfl, trivial⟩ rfl (by (try dsimp only [List.set]); rw [setsL_snoc hk']) rfl
              ·
                have hx := lead_exit (c := comeA a) hk hin (.inr (.inr h104))
                refine K_exit ?_
                refine Q_then_exit ?_
                refine Q_then_exit ?_
                refine Q_block_exit ?_
                refine Q_block ?_
                refine Q_then ?_
                refine K_region ?_
                refine KV (R_move rfl) rfl ?_
                refine KV (R_add rfl rfl (by omega)) rfl ?_
                refine KV (R_assign rfl) rfl ?_
                refine K_nil ?_
                refine KQ_sel [2, 0, 1, 1] rfl ?_
                refine Q_nextD ((i + 1)) hi' (by (try dsimp only); omega) ⟨rfl, trivial⟩ rfl (by rw [fold_take (leadS (comeA a)) hi', ← hx]) rfl
            ·
              intro h99
              have hx := lead_exit (c := comeA a) hk hin (.inr (.inl h99))
              refine K_gno rfl rfl rfl rfl ?_
              refine K_gno rfl rfl rfl rfl ?_
              refine K_gno rfl rfl rfl rfl ?_
              refine K_gno rfl rfl rfl rfl ?_
              refine KV (R_pickF rfl rfl) rfl ?_
              refine K_nil ?_
              refine Q_then ?_
              refine K_ifF rfl ?_
              refine K_exit ?_
              refine Q_then_exit ?_
              refine Q_then_exit ?_
              refine Q_block_exit ?_
              refine Q_block ?_
              refine Q_then ?_
              refine K_region ?_
              refine KV (R_move rfl) rfl ?_
              refine KV (R_add rfl rfl (by omega)) rfl ?_
              refine KV (R_assign rfl) rfl ?_
              refine K_nil ?_
              refine KQ_sel [1, 1, 1, 1] rfl ?_
              refine Q_nextD ((i + 1)) hi' (by (try dsimp only); omega) ⟨rfl, trivial⟩ rfl (by rw [fold_take (leadS (comeA a)) hi', ← hx]) rfl
          ·
            intro h92
            have hx := lead_exit (c := comeA a) hk hin (.inl (by omega))
            refine K_gno rfl rfl rfl rfl ?_
            refine K_gno rfl rfl rfl rfl ?_
            refine K_gno rfl rfl rfl rfl ?_
            refine K_gno rfl rfl rfl rfl ?_
            refine K_gno rfl rfl rfl rfl ?_
            refine KV (R_pickF rfl rfl) rfl ?_
            refine KV (R_move rfl) rfl ?_
            refine K_gno rfl rfl rfl rfl ?_
            refine K_gno rfl rfl rfl rfl ?_
            refine K_gno rfl rfl rfl rfl ?_
            refine K_gno rfl rfl rfl rfl ?_
            refine KV (R_pickF rfl rfl) rfl ?_
            refine K_nil ?_
            refine Q_then ?_
            refine K_ifF rfl ?_
            refine K_exit ?_
            refine Q_then_exit ?_
            refine Q_then_exit ?_
            refine Q_block_exit ?_
            refine Q_block ?_
            refine Q_then ?_
            refine K_region ?_
            refine KV (R_move rfl) rfl ?_
            refine KV (R_add rfl rfl (by omega)) rfl ?_
            refine KV (R_assign rfl) rfl ?_
            refine K_nil ?_
            refine KQ_sel [1, 1, 1, 1] rfl ?_
            refine Q_nextD ((i + 1)) hi' (by (try dsimp only); omega) ⟨rfl, trivial⟩ rfl (by rw [fold_take (leadS (comeA a)) hi', ← hx]) rfl
        ·
          have hi' : i = a.rules.length := by omega
          subst hi'
          rw [List.take_length]
          refine K_exit ?_
          refine Q_then_exit ?_
          refine Q_then_exit ?_
          refine Q_block_exit ?_
          refine Q_block ?_
          refine Q_then ?_
          refine K_region ?_
          refine KV (R_move rfl) rfl ?_
          refine KV (R_add rfl rfl (by omega)) rfl ?_
          refine KV (R_assign rfl) rfl ?_
          refine K_nil ?_
          refine Q_nextD ((r + 1)) hr' (by (try dsimp only); omega) ⟨rfl, trivial⟩ rfl rfl rfl
      ·
        have hr' : r = a.states.toNat + 1 := by omega
        subst hr'
        rw [show iterF (leadF (comeA a) a.rules) (a.states.toNat + 1) (finL a.final a.states.toNat) = leadA a from rfl]
        refine K_exit ?_
        refine Q_then_exit ?_
        refine Q_then_exit ?_
        refine Q_block_exit ?_
        refine Q_then ?_
        refine K_seq ?_
        refine KC_front 1 rfl ?_
        try dsimp only [List.eraseIdx]
        refine KC_pubF fun Ua hua hb22 => ?_
        skip
        refine KC_front 0 rfl ?_
        try dsimp only [List.eraseIdx]
        refine KC_pubF fun Ub hub hb25 => ?_
        skip
        have hm22 : At Ub b22 0 (mkL (comeA a)).toList := (At.of hb22).mono hub
        have hm25 : At Ub b25 0 (mkL (leadA a)).toList := At.of hb25
        have hvX := hua.trans hub
        have hcl := comeA_len a
        have hll := leadA_len a
        refine K_region ?_
        refine KV (R_fieldAddr 1 fd42_1 rfl) rfl ?_
        refine KV (R_loadO ty3 1 rfl rfl rfl rfl (fun _ => rfl) rfl) rfl ?_
        refine KA (A_makeSlice (k := a.states.toNat) ap25 z3 ty3 (congrArg (fun z => some (Value.int .i64 z)) hns) (congrArg (fun z => some (Value.int .i64 z)) hns) (by omega) (by omega)) rfl fun b116 => ?_
        refine KV (R_assign rfl) rfl ?_
        refine K_nil ?_
        refine Q_then ?_
        refine K_seq ?_
        refine K_region ?_
        refine KV (R_fieldAddr 0 fd42_0 rfl) rfl ?_
        refine KV (R_loadO ty25 2 rfl rfl rfl rfl (fun _ => rfl) rfl) rfl ?_
        refine KV (R_build z42 pl42 rfl rfl) rfl ?_
        refine KA (A_alloc z42) rfl fun b13 => ?_
        refine K_storeW ty42 0 rfl rfl rfl rfl rfl rfl rfl ?_
        refine K_nil ?_
        refine Q_then ?_
        refine K_seq ?_
        refine K_region ?_
        refine KV (R_fieldAddr 1 fd42_1 rfl) rfl ?_
        refine KV (R_loadO ty3 3 rfl rfl rfl rfl (fun _ => rfl) rfl) rfl ?_
        refine KA (A_makeSlice (k := a.states.toNat) ap52 z4 ty4 (congrArg (fun z => some (Value.int .i64 z)) hns) (congrArg (fun z => some (Value.int .i64 z)) hns) (by omega) (by omega)) rfl fun b122 => ?_
        refine KV (R_assign rfl) rfl ?_
        refine K_nil ?_
        refine Q_then ?_
        refine K_seq ?_
        refine K_seq ?_
        refine K_region ?_
        refine KV (R_assign rfl) rfl ?_
        refine K_nil ?_
        refine Q_then ?_
        refine K_block ?_
        refine K_loopD (G := Nat) [15, 123, 124, 125, 126, 127, 128, 129, 130, 131, 132, 133, 134, 135, 136, 137, 138, 139, 140, 141, 142, 143, 144, 145, 146, 147, 148, 149, 150, 151, 152, 153, 154] (fun g => [(15, .int .i64 (g : Int))]) (fun hl g => (((hl.set 2 (blk b116 (.cells (fnC a.states.toNat (toR a g)) T3 (0, 0)))).set 1 (blk b13 (.cells #[.slice ar a.ranks.length arc, .int .i64 ((cntN a g : Nat) : Int), .slice none 0 0, .slice none 0 0] T42 (0, 0)))).set 0 (blk b122 (.cells (mkL (stL a a.states.toNat g)) T4 (0, 0))))) (fun g => Ub) (fun g => (g ≤ a.states.toNat)) (fun g => a.states.toNat - g) (0 : Nat) (Nat.zero_le _) ⟨rfl, trivial⟩ (by simp only [args0, Nat.reduceAdd, del, memN, beqN, Nat.reduceBEq, cond_true, cond_false]; rfl) (by rw [toR_zero, ← fnC_made, stL_zero, ← mkL_made]; rfl) rfl ?_
        rintro s hs
        try dsimp only at hs
        dsimp only [List.set, List.cons_append, List.nil_append]
        refine K_seq ?_
        refine K_seq ?_
        refine K_region ?_
        refine KV (R_move rfl) rfl ?_
        refine KV (R_fieldAddr 1 fd42_1 rfl) rfl ?_
        refine KV (R_loadO ty3 4 rfl rfl rfl rfl (fun _ => rfl) rfl) rfl ?_
        refine KV (R_cmp rfl rfl rfl) rfl ?_
        refine K_nil ?_
        refine Q_then ?_
        refine K_if rfl (fun h126 => ?_) (fun h126 => ?_)
        ·
          have hs' : s < a.states.toNat := by omega
          have hcs := hm22.markN (s := s) (by omega)
          have hls := hm25.markN (s := s) (by omega)
          have htl := cntN_le a s
          refine K_skip ?_
          refine Q_then ?_
          refine K_seq ?_
          refine K_block ?_
          refine K_seq ?_
          refine K_region ?_
          refine KV (R_move rfl) rfl ?_
          refine KV (R_move rfl) rfl ?_
          refine KV (R_fieldAddr 1 fd42_1 rfl) rfl ?_
          refine KV (R_loadO ty3 1 rfl rfl rfl rfl (fun _ => rfl) rfl) rfl ?_
          refine KV (R_indexN sl25 ty3 rfl rfl (by omega)) rfl ?_
          refine K_storeE ty3 2 rfl rfl rfl rfl (by rw [fnC_size]; show _ + 1 ≤ _; omega) rfl (fnC_put hs' (by omega) (toR_step a s)) ?_
          refine K_nil ?_
          refine Q_then ?_
          refine K_seq ?_
          refine K_region ?_
          refine KV (R_move rfl) rfl ?_
          refine KV (R_move rfl) rfl ?_
          refine KV (R_move rfl) rfl ?_
          refine KV (R_move rfl) rfl ?_
          refine KV (R_indexN sl52 ty4 rfl rfl (by omega)) rfl ?_
          refine KV (R_loadH ty4 rfl (hcs) rfl (fun _ => rfl) rfl) rfl ?_
          refine KV (R_move rfl) rfl ?_
          refine K_splitB ?_ ?_
          ·
            intro h140
            have hv140 : onL (leadA a) (s : Int) = stayA a (s : Int) := by unfold stayA; rw [h140]; rfl
            refine K_gyes rfl rfl ?_
            refine KV (R_move rfl) rfl ?_
            refine K_gyes rfl rfl ?_
            refine KV (R_move rfl) rfl ?_
            refine K_gyes rfl rfl ?_
            refine KV (R_indexN sl52 ty4 rfl rfl (by omega)) rfl ?_
            refine K_gyes rfl rfl ?_
            refine KV (R_loadH ty4 rfl (hls) rfl (fun _ => rfl) rfl) rfl ?_
            refine KV (R_pickT rfl rfl) rfl ?_
            refine KV (R_indexN sl52 ty4 rfl rfl (by omega)) rfl ?_
            refine K_storeE ty4 0 rfl rfl rfl rfl (by rw [mkL_size, stL_len]; show _ + 1 ≤ _; omega) rfl (mkL_putS hs' (by omega) hv140) ?_
            refine K_nil ?_
            refine Q_then ?_
            refine K_seq ?_
            refine K_region ?_
            refine KV (R_move rfl) rfl ?_
            refine KV (R_move rfl) rfl ?_
            refine KV (R_indexN sl52 ty4 rfl rfl (by omega)) rfl ?_
            refine KV (R_loadC ty4 0 rfl rfl (mkL_get (q := (s : Int)) (by rw [stL_len]; omega) (by omega))) rfl ?_
            refine K_nil ?_
            refine Q_then ?_
            refine K_ifB rfl (fun h150 => ?_) (fun h150 => ?_)
            ·
              have hst : stayA a (s : Int) = true := by rw [stL_on (by omega) (by omega) (by omega)] at h150; exact h150
              refine K_region ?_
              refine KV (R_fieldAddr 1 fd42_1 rfl) rfl ?_
              refine KV (R_loadO ty3 1 rfl rfl rfl rfl (fun _ => rfl) rfl) rfl ?_
              refine KV (R_add rfl rfl (by omega)) rfl ?_
              refine KV (R_fieldAddr 1 fd42_1 rfl) rfl ?_
              refine K_store ty3 1 rfl rfl rfl rfl rfl rfl ?_
              refine K_nil ?_
              refine Q_block ?_
              refine Q_then ?_
              refine K_region ?_
              refine KV (R_move rfl) rfl ?_
              refine KV (R_add rfl rfl (by omega)) rfl ?_
              refine KV (R_assign rfl) rfl ?_
              refine K_nil ?_
              refine Q_nextD ((s + 1)) hs' (by (try dsimp only); omega) ⟨rfl, trivial⟩ rfl (by rw [cntN_succ, if_pos hst]; rfl) rfl
            ·
              have hst : ¬ stayA a (s : Int) = true := by rw [stL_on (by omega) (by omega) (by omega)] at h150; rw [h150]; decide
              refine K_skip ?_
              refine Q_block ?_
              refine Q_then ?_
              refine K_region ?_
              refine KV (R_move rfl) rfl ?_
              refine KV (R_add rfl rfl (by omega)) rfl ?_
              refine KV (R_assign rfl) rfl ?_
              refine K_nil ?_
              refine Q_nextD ((s + 1)) hs' (by (try dsimp only); omega) ⟨rfl, trivial⟩ rfl (by rw [cntN_succ, if_neg hst]; rfl) rfl
          ·
            intro h140
            have hv140 : false = stayA a (s : Int) := by unfold stayA; rw [h140]; rfl
            refine K_gno rfl rfl rfl rfl ?_
            refine K_gno rfl rfl rfl rfl ?_
            refine K_gno rfl rfl rfl rfl ?_
            refine K_gno rfl rfl rfl rfl ?_
            refine KV (R_pickF rfl rfl) rfl ?_
            refine KV (R_indexN sl52 ty4 rfl rfl (by omega)) rfl ?_
            refine K_storeE ty4 0 rfl rfl rfl rfl (by rw [mkL_size, stL_len]; show _ + 1 ≤ _; omega) rfl (mkL_putS hs' (by omega) hv140) ?_
            refine K_nil ?_
            refine Q_then ?_
            refine K_seq ?_
            refine K_region ?_
            refine KV (R_move rfl) rfl ?_
            refine KV (R_move rfl) rfl ?_
            refine KV (R_indexN sl52 ty4 rfl rfl (by omega)) rfl ?_
            refine KV (R_loadC ty4 0 rfl rfl (mkL_get (q := (s : Int)) (by rw [stL_len]; omega) (by omega))) rfl ?_
            refine K_nil ?_
            refine Q_then ?_
            refine K_ifB rfl (fun h150 => ?_) (fun h150 => ?_)
            ·
              have hst : stayA a (s : Int) = true := by rw [stL_on (by omega) (by omega) (by omega)] at h150; exact h150
              refine K_region ?_
              refine KV (R_fieldAddr 1 fd42_1 rfl) rfl ?_
              refine KV (R_loadO ty3 1 rfl rfl rfl rfl (fun _ => rfl) rfl) rfl ?_
              refine KV (R_add rfl rfl (by omega)) rfl ?_
              refine KV (R_fieldAddr 1 fd42_1 rfl) rfl ?_
              refine K_store ty3 1 rfl rfl rfl rfl rfl rfl ?_
              refine K_nil ?_
              refine Q_block ?_
              refine Q_then ?_
              refine K_region ?_
              refine KV (R_move rfl) rfl ?_
              refine KV (R_add rfl rfl (by omega)) rfl ?_
              refine KV (R_assign rfl) rfl ?_
              refine K_nil ?_
              refine Q_nextD ((s + 1)) hs' (by (try dsimp only); omega) ⟨rfl, trivial⟩ rfl (by rw [cntN_succ, if_pos hst]; rfl) rfl
            ·
              have hst : ¬ stayA a (s : Int) = true := by rw [stL_on (by omega) (by omega) (by omega)] at h150; rw [h150]; decide
              refine K_skip ?_
              refine Q_block ?_
              refine Q_then ?_
              refine K_region ?_
              refine KV (R_move rfl) rfl ?_
              refine KV (R_add rfl rfl (by omega)) rfl ?_
              refine KV (R_assign rfl) rfl ?_
              refine K_nil ?_
              refine Q_nextD ((s + 1)) hs' (by (try dsimp only); omega) ⟨rfl, trivial⟩ rfl (by rw [cntN_succ, if_neg hst]; rfl) rfl
        ·
          have hs' : s = a.states.toNat := by omega
          subst hs'
          refine K_exit ?_
          refine Q_then_exit ?_
          refine Q_then_exit ?_
          refine Q_block_exit ?_
          refine Q_then ?_
          refine K_seq ?_
          refine K_seq ?_
          refine KC_front 2 rfl ?_
          try dsimp only [List.eraseIdx]
          refine KC_pubF fun Uc huc hb116 => ?_
          skip
          refine KC_front 0 rfl ?_
          try dsimp only [List.eraseIdx]
          refine KC_pubF fun Ud hud hb122 => ?_
          skip
          have htab : At Ud b116 0 (fnC a.states.toNat (toR a a.states.toNat)).toList := (At.of hb116).mono hud
          have hstay : At Ud b122 0 (mkL (stL a a.states.toNat a.states.toNat)).toList := At.of hb122
          have hvX := hvX.trans (huc.trans hud)
          have hsl := stL_len a a.states.toNat a.states.toNat
          have hnn := cntN_le a a.states.toNat
          refine K_region ?_
          refine KV (R_assign rfl) rfl ?_
          refine K_nil ?_
          refine Q_then ?_
          refine K_block ?_
          refine K_nilrow T100 3 ?_
          refine K_loopD (G := Nat × View × Value × List Value) [16, 17, 18, 155, 156, 157, 158, 159, 160, 161, 162, 163, 164, 165, 166, 167, 168, 169, 170, 171, 172, 173, 174, 175, 176, 177, 178, 179, 180, 181, 182, 183, 184, 185, 186, 187, 188, 189, 190, 191, 192, 193, 194, 195, 196, 197, 198, 199, 200, 201, 202, 203, 204, 205, 206, 207, 208, 209, 210, 211, 212, 213, 214, 215, 216, 217, 218, 219, 220, 221, 222, 223, 224, 225, 226, 227, 228, 229, 230] (fun g => [(16, .int .i64 (g.1 : Int))]) (fun hl g => ((hl.set 0 (row g.2.2.1 T100 3 (leftR a (a.rules.take g.1)).length g.2.2.2)).set 1 (blk b13 (.cells #[.slice ar a.ranks.length arc, .int .i64 ((cntN a a.states.toNat : Nat) : Int), g.2.2.1, .slice none 0 0] T42 (0, 0))))) (fun g => g.2.1) (fun g => (g.1 ≤ a.rules.length) ∧ (VLe Ud g.2.1) ∧ (RepL (RepR g.2.1) 3 (leftR a (a.rules.take g.1)) g.2.2.2) ∧ (∃ ad cp, g.2.2.1 = .slice ad (leftR a (a.rules.take g.1)).length cp)) (fun g => a.rules.length - g.1) (0, Ud, nilS, []) ⟨Nat.zero_le _, VLe.refl _, .nil, none, 0, rfl⟩ ⟨rfl, trivial⟩ (by simp only [args0, Nat.reduceAdd, del, memN, beqN, Nat.reduceBEq, cond_true, cond_false]; rfl) rfl rfl ?_
          rintro ⟨i, V, w, cells⟩ ⟨hi, hV, hC, hw⟩
          dsimp only at hi hV hC hw
          dsimp only [List.set, List.cons_append, List.nil_append]
          obtain ⟨wa, wcp, rfl⟩ := hw
          have hlb := leftR_len a (a.rules.take i)
          rw [List.length_take] at hlb
          refine K_seq ?_
          refine K_seq ?_
          refine K_region ?_
          refine KV (R_move rfl) rfl ?_
          refine KV (R_fieldAddr 2 fd42_2 rfl) rfl ?_
          refine KV (R_loadO ty40 3 rfl rfl rfl rfl (fun _ => rfl) rfl) rfl ?_
          refine KV (R_len sl40 rfl) rfl ?_
          refine KV (R_cmp rfl rfl rfl) rfl ?_
          refine K_nil ?_
          refine Q_then ?_
          refine K_if rfl (fun h159 => ?_) (fun h159 => ?_)
          ·
            have hi' : i < a.rules.length := by omega
            obtain ⟨xb, xo, xq, xx, xy, xe, xc, xs, xt, xw, xl⟩ := (ha.mono (hvX.trans hV)).rule hi'
            cases xe
            obtain ⟨k1, k2, k3, k4, k5, k6⟩ := hoA.ru _ (List.getElem_mem hi')
            have hto2 := htab.fn (q := a.rules[i].to) (by omega)
            rw [toR_full (by omega)] at hto2
            have hsm := hstay.mark (q := a.rules[i].to) (by omega)
            rw [stL_on k5 (by omega) (by omega)] at hsm
            refine K_skip ?_
            refine Q_then ?_
            refine K_seq ?_
            refine K_block ?_
            refine K_seq ?_
            refine K_regionD (fin := true) (R := [0, 1, 2, 3, 4, 5, 6, 7, 8, 9, 10, 11, 12, 13, 14, 15, 16, 17]) (by kernel_rfl) mixed (.cons_cons _ (.cons_cons _ (.cons_cons _ (.cons_cons _ (List.nil_sublist _))))) ?_
            refine D_val rfl rfl rfl (R_fieldAddr 2 fd42_2 rfl) ?_
            refine D_val rfl rfl rfl (R_loadO ty40 3 rfl rfl rfl rfl (fun _ => rfl) rfl) ?_
            refine D_val rfl rfl rfl (R_move rfl) ?_
            refine D_val rfl rfl rfl (R_indexN sl40 ty100 rfl rfl (by omega)) ?_
            refine D_val rfl rfl rfl (R_fieldAddr 0 fd100_0 rfl) ?_
            refine D_val rfl rfl rfl (R_loadH ty3 rfl (At.one (j := 0) xc rfl) rfl (fun _ => rfl) rfl) ?_
            refine D_val rfl rfl rfl (R_move rfl) ?_
            refine D_val rfl rfl rfl (R_fieldAddr 2 fd42_2 rfl) ?_
            refine D_val rfl rfl rfl (R_loadO ty40 3 rfl rfl rfl rfl (fun _ => rfl) rfl) ?_
            refine D_val rfl rfl rfl (R_move rfl) ?_
            refine D_val rfl rfl rfl (R_indexN sl40 ty100 rfl rfl (by omega)) ?_
            refine D_val rfl rfl rfl (R_fieldAddr 2 fd100_2 rfl) ?_
            refine D_val rfl rfl rfl (R_loadH ty3 rfl (At.one (j := 2) xc rfl) rfl (fun _ => rfl) rfl) ?_
            refine D_val rfl rfl rfl (R_index sl25 ty3 rfl rfl ⟨k5, by omega⟩) ?_
            refine D_val rfl rfl rfl (R_loadH ty3 rfl (hto2.mono hV) rfl (fun _ => rfl) rfl) ?_
            refine D_val rfl rfl rfl (R_build z100 pl100 rfl rfl) ?_
            refine D_alloc rfl rfl rfl (A_alloc z100) fun b17 => ?_
            refine D_lastStoreW ty100 0 rfl rfl rfl rfl rfl rfl rfl rfl rfl ?_
            refine Q_then ?_
            refine K_seq ?_
            refine K_seq ?_
            refine K_region ?_
            refine KV (R_assign rfl) rfl ?_
            refine K_nil ?_
            refine Q_then ?_
            refine K_block ?_
            refine K_nilrow T3 1 ?_
            refine K_loopD (G := Nat × Value) [18, 178, 179, 180, 181, 182, 183, 184, 185, 186, 187, 188, 189, 190, 191, 192, 193, 194, 195, 196, 197, 198, 199, 200, 201, 202, 203, 204, 205] (fun g => [(18, .int .i64 (g.1 : Int))]) (fun hl g => ((hl.set 0 (row g.2 T3 1 g.1 (ints ((a.rules[i].args.take g.1).map (newA a))))).set 1 (blk b17 (.cells #[.int .i64 a.rules[i].sym, g.2, .int .i64 (newA a a.rules[i].to)] T100 (0, 0))))) (fun g => V) (fun g => (g.1 ≤ a.rules[i].args.length) ∧ (∃ ad cp, g.2 = .slice ad g.1 cp)) (fun g => a.rules[i].args.length - g.1) (0, nilS) ⟨Nat.zero_le _, none, 0, rfl⟩ ⟨rfl, trivial⟩ (by simp only [args0, Nat.reduceAdd, del, memN, beqN, Nat.reduceBEq, cond_true, cond_false]; rfl) rfl rfl ?_
            rintro ⟨j, w3⟩ ⟨hj, hw3⟩
            dsimp only at hj hw3
            dsimp only [List.set, List.cons_append, List.nil_append]
            obtain ⟨xa3, xcp3, rfl⟩ := hw3
            refine K_seq ?_
            refine K_seq ?_
            refine K_region ?_
            refine KV (R_move rfl) rfl ?_
            refine KV (R_fieldAddr 2 fd42_2 rfl) rfl ?_
            refine KV (R_loadO ty40 5 rfl rfl rfl rfl (fun _ => rfl) rfl) rfl ?_
            refine KV (R_move rfl) rfl ?_
            refine KV (R_indexN sl40 ty100 rfl rfl (by omega)) rfl ?_
            refine KV (R_fieldAddr 1 fd100_1 rfl) rfl ?_
            refine KV (R_loadH ty25 rfl (At.one (j := 1) xc rfl) rfl (fun _ => rfl) rfl) rfl ?_
            refine KV (R_len sl25 rfl) rfl ?_
            refine KV (R_cmp rfl rfl rfl) rfl ?_
            refine K_nil ?_
            refine Q_then ?_
            refine K_if rfl (fun h186 => ?_) (fun h186 => ?_)
            ·
              have hj' : j < a.rules[i].args.length := by omega
              obtain ⟨tb, to_, hte, hxj⟩ := xs.get hj'
              cases hte
              have hqj := k4 _ (List.getElem_mem hj')
              have htj := htab.fn (q := a.rules[i].args[j]) (by omega)
              rw [toR_full (by omega)] at htj
              refine K_skip ?_
              refine Q_then ?_
              refine K_seq ?_
              refine K_block ?_
              refine K_regionD (fin := true) (R := [0, 1, 2, 3, 4, 5, 6, 7, 8, 9, 10, 11, 12, 13, 14, 15, 16, 17]) (by kernel_rfl) mixed (.cons _ (.cons_cons _ (.cons_cons _ (.cons_cons _ (.cons_cons _ (.cons_cons _ (List.nil_sublist _))))))) ?_
              refine D_val rfl rfl rfl (R_fieldAddr 1 fd100_1 rfl) ?_
              refine D_val rfl rfl rfl (R_loadO ty25 0 rfl rfl rfl rfl (fun _ => rfl) rfl) ?_
              refine D_val rfl rfl rfl (R_move rfl) ?_
              refine D_val rfl rfl rfl (R_fieldAddr 2 fd42_2 rfl) ?_
              refine D_val rfl rfl rfl (R_loadO ty40 4 rfl rfl rfl rfl (fun _ => rfl) rfl) ?_
              refine D_val rfl rfl rfl (R_move rfl) ?_
              refine D_val rfl rfl rfl (R_indexN sl40 ty100 rfl rfl (by omega)) ?_
              refine D_val rfl rfl rfl (R_fieldAddr 1 fd100_1 rfl) ?_
              refine D_val rfl rfl rfl (R_loadH ty25 rfl (At.one (j := 1) xc rfl) rfl (fun _ => rfl) rfl) ?_
              refine D_val rfl rfl rfl (R_move rfl) ?_
              refine D_val rfl rfl rfl (R_indexN sl25 ty3 rfl rfl (by omega)) ?_
              refine D_val rfl rfl rfl (R_loadH ty3 rfl (hxj) rfl (fun _ => rfl) rfl) ?_
              refine D_val rfl rfl rfl (R_index sl25 ty3 rfl rfl ⟨hqj.1, by omega⟩) ?_
              refine D_val rfl rfl rfl (R_loadH ty3 rfl (htj.mono hV) rfl (fun _ => rfl) rfl) ?_
              refine D_alloc rfl rfl rfl (A_buildSlice (vs := [.int .i64 (newA a a.rules[i].args[j])]) sl25 ty3 z3 rfl rfl (by simp [Value.cells]) (by simp) rfl (by decide)) fun b203 => ?_
              refine D_append1 0 ap25 rfl rfl rfl rfl rfl rfl ⟨⟨0, rfl⟩, ⟨1, rfl⟩, ⟨2, rfl⟩, ⟨3, rfl⟩, ⟨4, rfl⟩, trivial⟩ rfl rfl ⟨by omega, by omega⟩ fun a204 k204 hn204 => ?_
              refine D_val rfl rfl rfl (R_fieldAddr 1 fd100_1 rfl) ?_
              refine D_lastStore ty25 1 rfl rfl rfl rfl rfl rfl rfl rfl ?_
              refine Q_block ?_
              refine Q_then ?_
              refine K_region ?_
              refine KV (R_move rfl) rfl ?_
              refine KV (R_add rfl rfl (by omega)) rfl ?_
              refine KV (R_assign rfl) rfl ?_
              refine K_nil ?_
              refine Q_nextD (j + 1, .slice a204 (j + 1) k204) ⟨hj', _, _, rfl⟩ (by (try dsimp only); omega) ⟨rfl, trivial⟩ rfl (by dsimp only [List.set]; rw [take_ints_snoc hj']; rfl) rfl
            ·
              have hj' : j = a.rules[i].args.length := by omega
              subst hj'
              rw [List.take_length]
              refine K_exit ?_
              refine Q_then_exit ?_
              refine Q_then_exit ?_
              refine Q_block_exit ?_
              refine Q_then ?_
              refine K_seq ?_
              refine K_region ?_
              refine KV (R_move rfl) rfl ?_
              refine KV (R_fieldAddr 2 fd42_2 rfl) rfl ?_
              refine KV (R_loadO ty40 5 rfl rfl rfl rfl (fun _ => rfl) rfl) rfl ?_
              refine KV (R_move rfl) rfl ?_
              refine KV (R_indexN sl40 ty100 rfl rfl (by omega)) rfl ?_
              refine KV (R_fieldAddr 2 fd100_2 rfl) rfl ?_
              refine KV (R_loadH ty3 rfl (At.one (j := 2) xc rfl) rfl (fun _ => rfl) rfl) rfl ?_
              refine KV (R_index sl52 ty4 rfl rfl ⟨k5, by omega⟩) rfl ?_
              refine KV (R_loadH ty4 rfl (hsm.mono hV) rfl (fun _ => rfl) rfl) rfl ?_
              refine KV (R_move rfl) rfl ?_
              refine K_splitB ?_ ?_
              ·
                intro h215
                have hst : stayA a a.rules[i].to = true := h215
                refine K_gyes rfl rfl ?_
                refine KV (R_fieldAddr 2 fd42_2 rfl) rfl ?_
                refine K_gyes rfl rfl ?_
                refine KV (R_loadO ty40 5 rfl rfl rfl rfl (fun _ => rfl) rfl) rfl ?_
                refine K_gyes rfl rfl ?_
                refine KV (R_move rfl) rfl ?_
                refine K_gyes rfl rfl ?_
                refine KV (R_indexN sl40 ty100 rfl rfl (by omega)) rfl ?_
                refine K_gyes rfl rfl ?_
                refine KV (R_fieldAddr 1 fd100_1 rfl) rfl ?_
                refine K_gyes rfl rfl ?_
                refine KV (R_loadH ty25 rfl (At.one (j := 1) xc rfl) rfl (fun _ => rfl) rfl) rfl ?_
                refine K_gyes rfl rfl ?_
                refine KV (R_move rfl) rfl ?_
                refine K_gyes rfl rfl ?_
                refine K_call c2060 rfl rfl (all_spec (stL a a.states.toNat a.states.toNat) a.states.toNat a.rules[i].args _ b122 V (stL_len _ _ _) (by omega) xs xl (hstay.mono hV) (fun q hq => by have := k4 q hq; omega)) ?_
                rintro _ V1 hv1 rfl
                rw [all_congr (f := onL (stL a a.states.toNat a.states.toNat)) (g := stayA a) (fun q hq => by have := k4 q hq; exact stL_on this.1 (by omega) (by omega))]
                refine KV (R_pickT rfl rfl) rfl ?_
                refine K_nil ?_
                refine Q_then ?_
                refine K_ifB rfl (fun h224 => ?_) (fun h224 => ?_)
                ·
                  have hall : ∀ y ∈ a.rules[i].args, stayA a y = true := List.all_eq_true.1 h224
                  have hke : keepR a a.rules[i] = true := keepR_iff.2 ⟨hst, hall⟩
                  refine KC_front 0 rfl ?_
                  try dsimp only [List.eraseIdx]
                  refine KC_pubrow rfl fun V3 hv3 hrowp => ?_
                  skip
                  have hva := hv1.trans hv3
                  have hRR : RepR V3 (newR a a.rules[i]) [.int .i64 a.rules[i].sym, .slice xa3 a.rules[i].args.length xcp3, .int .i64 (newA a a.rules[i].to)] := by
                    have e : (newR a a.rules[i]).args.length = a.rules[i].args.length := List.length_map ..
                    have hnb := newA_bound hst ⟨k5, k6⟩
                    refine ⟨xa3, xcp3, by rw [e]; rfl, ?_, xt, by show i64ok (newA a a.rules[i].to); simp only [i64ok]; omega, by rw [e]; exact xl⟩
                    rw [e]
                    refine ⟨by show SlAt _ _ (a.rules[i].args.map (newA a)).length _; rw [List.length_map]; exact hrowp.sl, fun x hx => ?_⟩
                    obtain ⟨y, hy, rfl⟩ := List.mem_map.1 (show x ∈ a.rules[i].args.map (newA a) from hx)
                    have hnb2 := newA_bound (hall y hy) (k4 y hy)
                    simp only [i64ok]; omega
                  refine K_region ?_
                  refine KV (R_fieldAddr 2 fd42_2 rfl) rfl ?_
                  refine KV (R_loadO ty40 2 rfl rfl rfl rfl (fun _ => rfl) rfl) rfl ?_
                  refine KV (R_loadW ty100 0 rfl rfl rfl rfl) rfl ?_
                  refine KA (A_buildSlice (vs := [.agg #[.int .i64 a.rules[i].sym, .slice xa3 a.rules[i].args.length xcp3, .int .i64 (newA a a.rules[i].to)]]) sl40 ty100 z100 rfl rfl (by simp [Value.cells]) (by simp) rfl (by decide)) rfl fun b228 => ?_
                  refine K_append1 1 ap40 rfl rfl rfl rfl rfl rfl ⟨by omega, by omega⟩ rfl fun a229 k229 hn229 => ?_
                  refine KV (R_fieldAddr 2 fd42_2 rfl) rfl ?_
                  refine K_store ty40 2 rfl rfl rfl rfl rfl rfl ?_
                  refine K_nil ?_
                  refine Q_block ?_
                  refine Q_then ?_
                  refine K_region ?_
                  refine KV (R_move rfl) rfl ?_
                  refine KV (R_add rfl rfl (by omega)) rfl ?_
                  refine KV (R_assign rfl) rfl ?_
                  refine K_nil ?_
                  refine KQ_sel [0, 1, 1, 1] rfl ?_
                  have hyes : leftR a (a.rules.take (i + 1)) = leftR a (a.rules.take i) ++ [newR a a.rules[i]] := by rw [leftR_snoc hi', if_pos hke]
                  refine Q_nextD (i + 1, V3, .slice a229 ((leftR a (a.rules.take i)).length + 1) k229, cells ++ [.int .i64 a.rules[i].sym, .slice xa3 a.rules[i].args.length xcp3, .int .i64 (newA a a.rules[i].to)]) ⟨hi', hV.trans hva, by rw [hyes]; exact (hC.imp fun x cs h => h.mono hva).snoc hRR rfl, _, _, by rw [hyes, List.length_append (bs := [_])]; rfl⟩ (by (try dsimp only); omega) ⟨rfl, trivial⟩ rfl (by dsimp only [List.set]; rw [hyes, List.length_append (bs := [_])]; rfl) rfl
                ·
                  have hke : keepR a a.rules[i] = false := by unfold keepR; rw [hst, h224]; rfl
                  refine K_skip ?_
                  refine Q_block ?_
                  refine Q_then ?_
                  refine K_region ?_
                  refine KV (R_move rfl) rfl ?_
                  refine KV (R_add rfl rfl (by omega)) rfl ?_
                  refine KV (R_assign rfl) rfl ?_
                  refine K_nil ?_
                  refine KQ_sel [2, 2, 2, 2] rfl ?_
                  have hno : leftR a (a.rules.take (i + 1)) = leftR a (a.rules.take i) := by rw [leftR_snoc hi', if_neg (by rw [hke]; decide), List.append_nil]
                  refine Q_nextD (i + 1, V1, .slice wa (leftR a (a.rules.take i)).length wcp, cells) ⟨hi', hV.trans hv1, by rw [hno]; exact hC.imp fun x cs h => h.mono hv1, _, _, by rw [hno]⟩ (by (try dsimp only); omega) ⟨rfl, trivial⟩ rfl (by dsimp only [List.set]; rw [hno]) rfl
              ·
                intro h215
                have hke : keepR a a.rules[i] = false := by unfold keepR; rw [h215]; rfl
                refine K_gno rfl rfl rfl rfl ?_
                refine K_gno rfl rfl rfl rfl ?_
                refine K_gno rfl rfl rfl rfl ?_
                refine K_gno rfl rfl rfl rfl ?_
                refine K_gno rfl rfl rfl rfl ?_
                refine K_gno rfl rfl rfl rfl ?_
                refine K_gno rfl rfl rfl rfl ?_
                refine K_gno rfl rfl rfl rfl ?_
                refine KV (R_pickF rfl rfl) rfl ?_
                refine K_nil ?_
                refine Q_then ?_
                refine K_ifF rfl ?_
                refine K_skip ?_
                refine Q_block ?_
                refine Q_then ?_
                refine K_region ?_
                refine KV (R_move rfl) rfl ?_
                refine KV (R_add rfl rfl (by omega)) rfl ?_
                refine KV (R_assign rfl) rfl ?_
                refine K_nil ?_
                refine KQ_sel [2, 2, 2, 2] rfl ?_
                have hno : leftR a (a.rules.take (i + 1)) = leftR a (a.rules.take i) := by rw [leftR_snoc hi', if_neg (by rw [hke]; decide), List.append_nil]
                refine Q_nextD (i + 1, V, .slice wa (leftR a (a.rules.take i)).length wcp, cells) ⟨hi', hV, by rw [hno]; exact hC, _, _, by rw [hno]⟩ (by (try dsimp only); omega) ⟨rfl, trivial⟩ rfl (by dsimp only [List.set]; rw [hno]) rfl
          ·
            have hi' : i = a.rules.length := by omega
            subst hi'
            rw [List.take_length] at hC
            rw [List.take_length]
            refine K_exit ?_
            refine Q_then_exit ?_
            refine Q_then_exit ?_
            refine Q_block_exit ?_
            refine Q_then ?_
            refine K_seq ?_
            refine K_seq ?_
            refine K_region ?_
            refine KV (R_assign rfl) rfl ?_
            refine K_nil ?_
            refine Q_then ?_
            refine K_block ?_
            refine KC_front 0 rfl ?_
            try dsimp only [List.eraseIdx]
            refine KC_pubrow rfl fun Ur hur hrowR => ?_
            skip
            have hvQ := hV
            have hvR := hur
            have hC := hC.imp fun x cs h => h.mono hur
            refine K_nilrow T3 1 ?_
            refine K_loopD (G := Nat × Value) [19, 231, 232, 233, 234, 235, 236, 237, 238, 239, 240, 241, 242, 243, 244, 245, 246, 247, 248, 249, 250, 251, 252, 253, 254, 255, 256, 257, 258] (fun g => [(19, .int .i64 (g.1 : Int))]) (fun hl g => ((hl.set 0 (row g.2 T3 1 (leftF a (a.final.take g.1)).length (ints (leftF a (a.final.take g.1))))).set 1 (blk b13 (.cells #[.slice ar a.ranks.length arc, .int .i64 ((cntN a a.states.toNat : Nat) : Int), .slice wa (leftR a a.rules).length wcp, g.2] T42 (0, 0))))) (fun g => Ur) (fun g => (g.1 ≤ a.final.length) ∧ (∃ ad cp, g.2 = .slice ad (leftF a (a.final.take g.1)).length cp)) (fun g => a.final.length - g.1) (0, nilS) ⟨Nat.zero_le _, none, 0, rfl⟩ ⟨rfl, trivial⟩ (by simp only [args0, Nat.reduceAdd, del, memN, beqN, Nat.reduceBEq, cond_true, cond_false]; rfl) rfl rfl ?_
            rintro ⟨k, f⟩ ⟨hk, hf⟩
            dsimp only at hk hf
            dsimp only [List.set, List.cons_append, List.nil_append]
            obtain ⟨fa, fcp, rfl⟩ := hf
            have hlb := leftF_len a (a.final.take k)
            rw [List.length_take] at hlb
            refine K_seq ?_
            refine K_seq ?_
            refine K_region ?_
            refine KV (R_move rfl) rfl ?_
            refine KV (R_fieldAddr 3 fd42_3 rfl) rfl ?_
            refine KV (R_loadO ty25 3 rfl rfl rfl rfl (fun _ => rfl) rfl) rfl ?_
            refine KV (R_len sl25 rfl) rfl ?_
            refine KV (R_cmp rfl rfl rfl) rfl ?_
            refine K_nil ?_
            refine Q_then ?_
            refine K_if rfl (fun h235 => ?_) (fun h235 => ?_)
            ·
              have hk' : k < a.final.length := by omega
              obtain ⟨fb, fo, hfe, hfk⟩ := (ha.mono (hvX.trans (hvQ.trans hvR))).f.get hk'
              cases hfe
              have hqk := hoA.fi _ (List.getElem_mem hk')
              have hsm2 := hstay.mark (q := a.final[k]) (by omega)
              rw [stL_on hqk.1 (by omega) (by omega)] at hsm2
              refine K_skip ?_
              refine Q_then ?_
              refine K_seq ?_
              refine K_block ?_
              refine K_seq ?_
              refine K_region ?_
              refine KV (R_move rfl) rfl ?_
              refine KV (R_fieldAddr 3 fd42_3 rfl) rfl ?_
              refine KV (R_loadO ty25 3 rfl rfl rfl rfl (fun _ => rfl) rfl) rfl ?_
              refine KV (R_move rfl) rfl ?_
              refine KV (R_indexN sl25 ty3 rfl rfl (by omega)) rfl ?_
              refine KV (R_loadH ty3 rfl (hfk) rfl (fun _ => rfl) rfl) rfl ?_
              refine KV (R_index sl52 ty4 rfl rfl ⟨hqk.1, by omega⟩) rfl ?_
              refine KV (R_loadH ty4 rfl (hsm2.mono (hvQ.trans hvR)) rfl (fun _ => rfl) rfl) rfl ?_
              refine K_nil ?_
              refine Q_then ?_
              refine K_ifB rfl (fun h245 => ?_) (fun h245 => ?_)
              ·
                have hst : stayA a a.final[k] = true := h245
                have hto3 := htab.fn (q := a.final[k]) (by omega)
                rw [toR_full (by omega)] at hto3
                refine K_regionD (fin := true) (R := [0, 1, 2, 3, 4, 5, 6, 7, 8, 9, 10, 11, 12, 13]) (by kernel_rfl) mixed (.cons _ (.cons_cons _ (.cons_cons _ (.cons_cons _ (List.nil_sublist _))))) ?_
                refine D_val rfl rfl rfl (R_fieldAddr 3 fd42_3 rfl) ?_
                refine D_val rfl rfl rfl (R_loadO ty25 0 rfl rfl rfl rfl (fun _ => rfl) rfl) ?_
                refine D_val rfl rfl rfl (R_move rfl) ?_
                refine D_val rfl rfl rfl (R_fieldAddr 3 fd42_3 rfl) ?_
                refine D_val rfl rfl rfl (R_loadO ty25 2 rfl rfl rfl rfl (fun _ => rfl) rfl) ?_
                refine D_val rfl rfl rfl (R_move rfl) ?_
                refine D_val rfl rfl rfl (R_indexN sl25 ty3 rfl rfl (by omega)) ?_
                refine D_val rfl rfl rfl (R_loadH ty3 rfl (hfk) rfl (fun _ => rfl) rfl) ?_
                refine D_val rfl rfl rfl (R_index sl25 ty3 rfl rfl ⟨hqk.1, by omega⟩) ?_
                refine D_val rfl rfl rfl (R_loadH ty3 rfl (hto3.mono (hvQ.trans hvR)) rfl (fun _ => rfl) rfl) ?_
                refine D_alloc rfl rfl rfl (A_buildSlice (vs := [.int .i64 (newA a a.final[k])]) sl25 ty3 z3 rfl rfl (by simp [Value.cells]) (by simp) rfl (by decide)) fun b256 => ?_
                refine D_append1 0 ap25 rfl rfl rfl rfl rfl rfl ⟨⟨0, rfl⟩, ⟨1, rfl⟩, ⟨2, rfl⟩, trivial⟩ rfl rfl ⟨by omega, by omega⟩ fun a257 k257 hn257 => ?_
                refine D_val rfl rfl rfl (R_fieldAddr 3 fd42_3 rfl) ?_
                refine D_lastStore ty25 1 rfl rfl rfl rfl rfl rfl rfl rfl ?_
                refine Q_block ?_
                refine Q_then ?_
                refine K_region ?_
                refine KV (R_move rfl) rfl ?_
                refine KV (R_add rfl rfl (by omega)) rfl ?_
                refine KV (R_assign rfl) rfl ?_
                refine K_nil ?_
                have hyes : leftF a (a.final.take (k + 1)) = leftF a (a.final.take k) ++ [newA a a.final[k]] := by rw [leftF_snoc hk', if_pos hst]
                refine Q_nextD (k + 1, .slice a257 ((leftF a (a.final.take k)).length + 1) k257) ⟨hk', _, _, by rw [hyes, List.length_append (bs := [_])]; rfl⟩ (by (try dsimp only); omega) ⟨rfl, trivial⟩ rfl (by dsimp only [List.set]; rw [hyes, List.length_append (bs := [_]), ints_snoc]; rfl) rfl
              ·
                have hst : stayA a a.final[k] = false := h245
                refine K_skip ?_
                refine Q_block ?_
                refine Q_then ?_
                refine K_region ?_
                refine KV (R_move rfl) rfl ?_
                refine KV (R_add rfl rfl (by omega)) rfl ?_
                refine KV (R_assign rfl) rfl ?_
                refine K_nil ?_
                have hno : leftF a (a.final.take (k + 1)) = leftF a (a.final.take k) := by rw [leftF_snoc hk', if_neg (by rw [hst]; decide), List.append_nil]
                refine Q_nextD (k + 1, .slice fa (leftF a (a.final.take k)).length fcp) ⟨hk', _, _, by rw [hno]⟩ (by (try dsimp only); omega) ⟨rfl, trivial⟩ rfl (by dsimp only [List.set]; rw [hno]) rfl
            ·
              have hk' : k = a.final.length := by omega
              subst hk'
              rw [List.take_length]
              refine K_exit ?_
              refine Q_then_exit ?_
              refine Q_then_exit ?_
              refine Q_block_exit ?_
              refine Q_then ?_
              refine K_seq ?_
              refine KC_front 0 rfl ?_
              try dsimp only [List.eraseIdx]
              refine KC_pubrow rfl fun Uz huz hrowF => ?_
              skip
              have hI : RepAu Uz (trimA a) (.slice ar a.ranks.length arc) (.slice wa (leftR a a.rules).length wcp) (.slice fa (leftF a a.final).length fcp) := by
                refine ⟨(ha.mono (hvX.trans (hvQ.trans (hvR.trans huz)))).r, ⟨cells, hrowR.sl.mono huz, hC.imp fun x cs h => h.mono huz⟩, ⟨hrowF.sl, fun x hx => ?_⟩, by show i64ok ((cntN a a.states.toNat : Nat) : Int); simp only [i64ok]; omega, hrl, Nat.le_trans (leftR_len a a.rules) (by omega), Nat.le_trans (leftF_len a a.final) hfl⟩
                obtain ⟨y, hy, rfl⟩ := List.mem_map.1 (show x ∈ leftF a a.final from hx)
                obtain ⟨hy1, hy2⟩ := List.mem_filter.1 hy
                have hnb2 := newA_bound hy2 (hoA.fi y hy1)
                simp only [i64ok]; omega
              refine K_region ?_
              refine KV (R_loadW ty42 0 rfl rfl rfl rfl) rfl ?_
              refine K_call c67 rfl rfl (rsorted_spec (trimA a) _ _ _ Uz hI (by show (leftR a a.rules).length ≤ _; exact Nat.le_trans (leftR_len a a.rules) (by omega)) (by show ((cntN a a.states.toNat : Nat) : Int) ≤ _; omega) (fun r hr => by
                obtain ⟨q, hq, rfl⟩ := List.mem_map.1 (show r ∈ leftR a a.rules from hr)
                rw [show (newR a q).args.length = q.args.length from List.length_map ..]; exact Nat.le_trans (haA q (List.mem_filter.1 hq).1) (by decide))) ?_
              rintro _ U2 hU2 ⟨s1, s2, s3, rfl, hS⟩
              obtain ⟨sr, src, rfl⟩ := hS.r.shape
              obtain ⟨sf, sfc, rfl⟩ := hS.f.shape
              obtain ⟨su, suc, rfl⟩ := hS.ushape
              refine K_storeW ty42 1 rfl rfl rfl rfl rfl rfl rfl ?_
              refine K_nil ?_
              refine Q_then ?_
              refine K_ret ?_
              refine results_gen (rs := [.cell 2 25]) (vs := [_]) rfl ⟨⟨_, _, _, _, _, _, 1, rfl, rfl, ty42, (fun e => by cases e), rfl, rfl⟩, trivial⟩ ?_
              exact ⟨_, _, _, rfl, hS⟩
end Go.Proofs.X

namespace Go.Proofs.X
open Go Pal Go.Proofs
attribute [local irreducible] Pal.KO Pal.KC Pal.KQ Pal.KD
theorem c2029 : callable Tryz.prog F2029 = true := by kernel_rfl
theorem c2030 : callable Tryz.prog F2030 = true := by kernel_rfl
set_option maxHeartbeats 1000000 in
theorem trim_law (a : Au) (t : Tr) (v1 v2 v3 : Value) (H : View) (cs : List Value) (ha : RepAu H a v1 v2 v3) (hr : RepT H t cs) (hb : t.size ≤ 1048576) : Sat Tryz.prog F2005 #[.agg #[v1, .int .i64 a.states, v2, v3], .agg cs.toArray] H (fun v _ => v = .bool true) := by
  obtain ⟨ar, arc, rfl⟩ := ha.r.shape
  obtain ⟨af, afc, rfl⟩ := ha.f.shape
  obtain ⟨au, auc, rfl⟩ := ha.ushape
  obtain ⟨x0, x1, x2, x3, rfl⟩ := hr.shape
  refine enterO (n := 84) (args := [.agg #[.slice ar a.ranks.length arc, .int .i64 a.states, .slice au a.rules.length auc, .slice af a.final.length afc], .agg #[.int .i64 x0, .slice x1 x2 x3]]) Tryz.func8 rfl rfl rfl fun w0 => ?_
  refine K_seq ?_
  refine K_region ?_
  refine KA (A_box rfl) rfl fun b2 => ?_
  refine KA (A_box rfl) rfl fun b3 => ?_
  refine KV (R_assign rfl) rfl ?_
  refine K_nil ?_
  refine Q_then ?_
  refine K_seq ?_
  refine K_seq ?_
  refine K_region ?_
  refine K_call c2009 rfl rfl (known32_spec _) ?_
  rintro _ V1 hv1 rfl
  refine KV (R_not rfl) rfl ?_
  refine K_nil ?_
  refine Q_then ?_
  refine K_ifB rfl (fun h13 => ?_) (fun h13 => ?_)
  ·
    cases h13
  ·
    refine K_skip ?_
    refine Q_then ?_
    refine K_seq ?_
    refine K_seq ?_
    refine K_region ?_
    refine KV (R_loadW ty42 1 rfl rfl rfl rfl) rfl ?_
    refine K_call c15 rfl rfl (few_spec a _ _ _ V1 (ha.mono hv1)) ?_
    rintro _ V2 hv2 rfl
    refine KV (R_notP rfl) rfl ?_
    refine KV (R_move rfl) rfl ?_
    refine K_split ?_ ?_
    ·
      intro h17
      refine K_gno rfl rfl rfl rfl ?_
      refine K_gno rfl rfl rfl rfl ?_
      refine K_gno rfl rfl rfl rfl ?_
      refine KV (R_pickT rfl rfl) rfl ?_
      refine K_nil ?_
      refine Q_then ?_
      refine K_ifT rfl ?_
      refine K_seq ?_
      refine K_region ?_
      refine KV (R_assign rfl) rfl ?_
      refine K_nil ?_
      refine Q_then ?_
      refine K_ret ?_
      refine Q_then_ret ?_
      refine results_gen (rs := [.tmp 4]) (vs := [_]) rfl ⟨rfl, trivial⟩ ?_
      first | rfl | exact congrArg Value.bool (by simp) | exact congrArg Value.bool (decide_eq_true rfl)
    ·
      intro h17
      have hfa := Decidable.not_not.1 h17
      refine K_gyes rfl rfl ?_
      refine KV (R_loadW ty24 0 rfl rfl rfl rfl) rfl ?_
      refine K_gyes rfl rfl ?_
      refine K_call c2010 rfl rfl (short32_spec t V2 _ (by omega) (hr.mono (hv1.trans (hv2)))) ?_
      rintro _ V3 hv3 rfl
      refine K_gyes rfl rfl ?_
      refine KV (R_notP rfl) rfl ?_
      refine KV (R_pickF rfl rfl) rfl ?_
      refine K_nil ?_
      refine Q_then ?_
      refine K_if rfl (fun h21 => ?_) (fun h21 => ?_)
      ·
        refine K_seq ?_
        refine K_region ?_
        refine KV (R_assign rfl) rfl ?_
        refine K_nil ?_
        refine Q_then ?_
        refine K_ret ?_
        refine Q_then_ret ?_
        refine results_gen (rs := [.tmp 4]) (vs := [_]) rfl ⟨rfl, trivial⟩ ?_
        first | rfl | exact congrArg Value.bool (by simp) | exact congrArg Value.bool (decide_eq_true rfl)
      ·
        have hsh := Decidable.not_not.1 h21
        refine K_skip ?_
        refine Q_then ?_
        refine K_seq ?_
        refine K_region ?_
        refine KV (R_loadW ty42 1 rfl rfl rfl rfl) rfl ?_
        refine K_call c17 rfl rfl (to_spec a _ _ _ V3 (ha.mono (hv1.trans (hv2.trans (hv3))))) ?_
        rintro _ V4 hv4 ⟨p1, p2, p3, rfl, hp⟩
        refine K_call c2029 rfl rfl (ntrim_spec a _ _ _ V4 hp) ?_
        rintro _ V5 hv5 ⟨n1, n2, n3, rfl, hB⟩
        have uAE : auErr a ≠ 0 → errAu (auErr a) (normA (trimA a)) = zeroA := errAu_no
        have uA0 : auErr a = 0 → errAu (auErr a) (normA (trimA a)) = normA (trimA a) := errAu_ok
        generalize errAu (auErr a) (normA (trimA a)) = uA at hB uAE uA0 ⊢
        obtain ⟨ur, urc, rfl⟩ := hB.r.shape
        obtain ⟨uf, ufc, rfl⟩ := hB.f.shape
        obtain ⟨uu, uuc, rfl⟩ := hB.ushape
        refine KV (R_move rfl) rfl ?_
        refine KV (R_extract rfl rfl) rfl ?_
        refine KV (R_extract rfl rfl) rfl ?_
        refine KA (A_alloc z50) rfl fun b5 => ?_
        refine K_storeW ty50 0 rfl rfl rfl rfl rfl rfl rfl ?_
        refine KV (R_assign rfl) rfl ?_
        refine K_nil ?_
        refine Q_then ?_
        refine K_seq ?_
        refine K_seq ?_
        refine K_region ?_
        refine KV (R_loadW ty42 2 rfl rfl rfl rfl) rfl ?_
        refine K_call c20 rfl rfl (rcheck_spec a _ _ _ V5 (ha.mono (hv1.trans (hv2.trans (hv3.trans (hv4.trans (hv5))))))) ?_
        rintro _ V6 hv6 rfl
        refine KV (R_assign rfl) rfl ?_
        refine K_nil ?_
        refine Q_then ?_
        refine K_seq ?_
        refine K_region ?_
        refine KV (R_move rfl) rfl ?_
        refine KV (R_cmp rfl rfl rfl) rfl ?_
        refine K_nil ?_
        refine Q_then ?_
        refine K_if rfl (fun h31 => ?_) (fun h31 => ?_)
        ·
          obtain rfl := uAE h31
          refine K_seq ?_
          refine K_region ?_
          refine KV (R_move rfl) rfl ?_
          refine KV (R_move rfl) rfl ?_
          refine KV (R_cmp rfl rfl rfl) rfl ?_
          refine KV (R_move rfl) rfl ?_
          refine K_split ?_ ?_
          ·
            intro h35
            refine K_gyes rfl rfl ?_
            refine KV (R_fieldAddr 1 fd50_1 rfl) rfl ?_
            refine K_gyes rfl rfl ?_
            refine KV (R_loadO ty3 0 rfl rfl rfl rfl (fun _ => rfl) rfl) rfl ?_
            refine K_gyes rfl rfl ?_
            refine KV (R_cmp rfl rfl rfl) rfl ?_
            refine KV (R_pickT rfl rfl) rfl ?_
            refine KV (R_assign rfl) rfl ?_
            refine K_nil ?_
            refine Q_then ?_
            refine K_ret ?_
            refine Q_then_ret ?_
            refine results_gen (rs := [.tmp 4]) (vs := [_]) rfl ⟨rfl, trivial⟩ ?_
            first | rfl | exact congrArg Value.bool (by simp) | exact congrArg Value.bool (decide_eq_true rfl)
          ·
            intro h35
            exact absurd rfl h35
        ·
          have hae : auErr a = 0 := Decidable.not_not.1 h31
          have hoA := AuOk.of hae
          obtain rfl := uA0 hae
          have hrk8 : a.ranks.length ≤ 1048576 := Nat.le_trans hfa.1 (by decide)
          have hlA : numT a t ≤ 1264962048 := Nat.le_trans (numT_le (u := 14) (f := 12) (k := 7) hfa.2.2.1 hfa.2.2.2 hsh.2 (by decide)) (by decide)
          refine K_skip ?_
          refine Q_then ?_
          refine K_seq ?_
          refine K_seq ?_
          refine K_regionD (fin := false) (R := [0, 1, 2, 3, 4, 5, 6, 7, 8]) (by kernel_rfl) mixed (.cons_cons _ (.cons_cons _ (.cons_cons _ (List.nil_sublist _)))) ?_
          refine D_val rfl rfl rfl (R_move rfl) ?_
          refine D_val rfl rfl rfl (R_cmp rfl rfl rfl) ?_
          refine D_val rfl rfl rfl (R_move rfl) ?_
          refine D_split ?_ ?_
          ·
            intro h42
            exact absurd hae h42
          ·
            intro h42
            refine D_val rfl rfl rfl (R_loadW ty50 0 rfl rfl rfl rfl) ?_
            refine D_val rfl rfl rfl (R_loadW ty42 2 rfl rfl rfl rfl) ?_
            refine D_call rfl rfl c2030 rfl ⟨⟨0, rfl⟩, ⟨1, rfl⟩, ⟨2, rfl⟩, trivial⟩ (rtrim_spec a _ _ _ V6 (ha.mono (hv1.trans (hv2.trans (hv3.trans (hv4.trans (hv5.trans (hv6))))))) hoA (by omega)) ?_
            rintro _ V7 hv7 ⟨e1, e2, e3, rfl, hE⟩
            rw [sortedM_norm (trimA_ok hoA)] at hE
            obtain ⟨er, erc, rfl⟩ := hE.r.shape
            obtain ⟨ef, efc, rfl⟩ := hE.f.shape
            obtain ⟨eu, euc, rfl⟩ := hE.ushape
            refine D_call rfl rfl c2021 rfl ⟨⟨0, rfl⟩, ⟨1, rfl⟩, ⟨2, rfl⟩, trivial⟩ (alike_spec (normA (trimA a)) (normA (trimA a)) _ _ _ _ _ _ V7 (hB.mono (hv6.trans (hv7))) hE (normA_ok (trimA_ok hoA)) (normA_ok (trimA_ok hoA)) (norm_idem _) (sameM_self _)) ?_
            rintro _ V8 hv8 rfl
            refine D_val rfl rfl rfl (R_not rfl) ?_
            refine D_val rfl rfl rfl (R_pickF rfl rfl) ?_
            refine D_done ?_
            refine Q_then ?_
            refine K_ifB rfl (fun h48 => ?_) (fun h48 => ?_)
            ·
              cases h48
            ·
              refine K_skip ?_
              refine Q_then ?_
              refine K_seq ?_
              refine K_regionD (fin := false) (R := [0, 2, 1, 3, 4, 5, 6, 7, 8, 9, 10]) (by kernel_rfl) mixed (.cons_cons _ (.cons_cons _ (.cons_cons _ (List.nil_sublist _)))) ?_
              refine D_val rfl rfl rfl (R_loadW ty42 2 rfl rfl rfl rfl) ?_
              refine D_val rfl rfl rfl (R_loadW ty24 1 rfl rfl rfl rfl) ?_
              refine D_call rfl rfl c17 rfl ⟨⟨0, rfl⟩, ⟨1, rfl⟩, ⟨2, rfl⟩, trivial⟩ (to_spec a _ _ _ V8 (ha.mono (hv1.trans (hv2.trans (hv3.trans (hv4.trans (hv5.trans (hv6.trans (hv7.trans (hv8)))))))))) ?_
              rintro _ V9 hv9 ⟨p1, p2, p3, rfl, hp⟩
              refine D_call rfl rfl c11 rfl ⟨⟨0, rfl⟩, ⟨1, rfl⟩, ⟨2, rfl⟩, trivial⟩ (tree_spec t.size t V9 _ (Nat.le_refl _) (by omega) (hr.mono (hv1.trans (hv2.trans (hv3.trans (hv4.trans (hv5.trans (hv6.trans (hv7.trans (hv8.trans (hv9))))))))))) ?_
              rintro _ V10 hv10 ⟨dt, rfl, ht⟩
              obtain ⟨t0, t1, t2, t3, rfl⟩ := ht.shape
              refine D_call rfl rfl c2016 rfl ⟨⟨0, rfl⟩, ⟨1, rfl⟩, ⟨2, rfl⟩, trivial⟩ (countruns_spec a _ _ _ t _ V10 (hp.mono hv10) hrk8 ht (by omega)) ?_
              rintro _ V11 hv11 ⟨nA, rfl, hKA⟩
              obtain ⟨Aa, Ak, Aw, rfl, hNA⟩ := numT_at hKA.1 hKA.2
              refine D_val rfl rfl rfl (R_move rfl) ?_
              refine D_val rfl rfl rfl (R_extract rfl rfl) ?_
              refine D_val rfl rfl rfl (R_extract rfl rfl) ?_
              refine D_alloc rfl rfl rfl (A_alloc z2009) fun b8 => ?_
              refine D_storeW ty2009 0 rfl rfl rfl rfl rfl ⟨⟨0, rfl⟩, ⟨1, rfl⟩, ⟨2, rfl⟩, trivial⟩ rfl rfl rfl rfl ?_
              refine D_val rfl rfl rfl (R_assign rfl) ?_
              refine D_done ?_
              refine Q_then ?_
              refine K_seq ?_
              refine K_regionD (fin := false) (R := [0, 1, 2, 3, 4, 5, 6, 7, 8, 9]) (by kernel_rfl) mixed (.cons_cons _ (.cons_cons _ (.cons_cons _ (.cons_cons _ (List.nil_sublist _))))) ?_
              refine D_val rfl rfl rfl (R_loadW ty50 1 rfl rfl rfl rfl) ?_
              refine D_val rfl rfl rfl (R_loadW ty24 2 rfl rfl rfl rfl) ?_
              refine D_call rfl rfl c11 rfl ⟨⟨0, rfl⟩, ⟨1, rfl⟩, ⟨2, rfl⟩, ⟨3, rfl⟩, trivial⟩ (tree_spec t.size t V11 _ (Nat.le_refl _) (by omega) (hr.mono (hv1.trans (hv2.trans (hv3.trans (hv4.trans (hv5.trans (hv6.trans (hv7.trans (hv8.trans (hv9.trans (hv10.trans (hv11))))))))))))) ?_
              rintro _ V12 hv12 ⟨dt, rfl, ht⟩
              obtain ⟨t0, t1, t2, t3, rfl⟩ := ht.shape
              refine D_call rfl rfl c2016 rfl ⟨⟨0, rfl⟩, ⟨1, rfl⟩, ⟨2, rfl⟩, ⟨3, rfl⟩, trivial⟩ (countruns_spec (normA (trimA a)) _ _ _ t _ V12 (hB.mono (hv6.trans (hv7.trans (hv8.trans (hv9.trans (hv10.trans (hv11.trans (hv12)))))))) hrk8 ht (by omega)) ?_
              rintro _ V13 hv13 ⟨nB, rfl, hKB⟩
              obtain ⟨Ba, Bk, Bw, rfl, hNB⟩ := numT_at hKB.1 hKB.2
              rw [numT_trim hae] at hNB
              rw [ask_trim hae]
              refine D_val rfl rfl rfl (R_move rfl) ?_
              refine D_val rfl rfl rfl (R_extract rfl rfl) ?_
              refine D_val rfl rfl rfl (R_extract rfl rfl) ?_
              refine D_alloc rfl rfl rfl (A_alloc z2009) fun b10 => ?_
              refine D_storeW ty2009 0 rfl rfl rfl rfl rfl ⟨⟨0, rfl⟩, ⟨1, rfl⟩, ⟨2, rfl⟩, ⟨3, rfl⟩, trivial⟩ rfl rfl rfl rfl ?_
              refine D_val rfl rfl rfl (R_assign rfl) ?_
              refine D_done ?_
              refine Q_then ?_
              refine K_seq ?_
              refine K_regionD (fin := false) (R := [0, 1, 2, 3, 4, 5, 6, 7, 8, 9, 10, 13, 15, 11, 12, 14, 16, 17, 18, 19, 20]) (by kernel_rfl) mixed (.cons_cons _ (.cons_cons _ (.cons_cons _ (.cons_cons _ (.cons_cons _ (List.nil_sublist _)))))) ?_
              refine D_val rfl rfl rfl (R_move rfl) ?_
              refine D_val rfl rfl rfl (R_move rfl) ?_
              refine D_val rfl rfl rfl (R_cmp rfl rfl rfl) ?_
              refine D_val rfl rfl rfl (R_move rfl) ?_
              refine D_split ?_ ?_
              ·
                intro h67
                refine D_val rfl rfl rfl (R_loadW ty2009 1 rfl rfl rfl rfl) ?_
                refine D_val rfl rfl rfl (R_loadW ty2009 0 rfl rfl rfl rfl) ?_
                refine D_call rfl rfl c2018 rfl ⟨⟨0, rfl⟩, ⟨1, rfl⟩, ⟨2, rfl⟩, ⟨3, rfl⟩, ⟨4, rfl⟩, trivial⟩ (eqN_spec (numT a t) (numT a t) _ _ V13 (hNA.mono (hv12.trans (hv13))) hNB (by omega)) ?_
                rintro _ V14 hv14 rfl
                rw [decide_eq_true (rfl : numT a t = numT a t)]
                refine D_val rfl rfl rfl (R_pickT rfl rfl) ?_
                refine D_val rfl rfl rfl (R_move rfl) ?_
                refine D_splitB ?_ ?_
                ·
                  intro h72
                  refine D_val rfl rfl rfl (R_loadW ty50 2 rfl rfl rfl rfl) ?_
                  refine D_val rfl rfl rfl (R_loadW ty24 3 rfl rfl rfl rfl) ?_
                  refine D_val rfl rfl rfl (R_loadW ty42 4 rfl rfl rfl rfl) ?_
                  refine D_val rfl rfl rfl (R_loadW ty24 3 rfl rfl rfl rfl) ?_
                  refine D_call rfl rfl c11 rfl ⟨⟨0, rfl⟩, ⟨1, rfl⟩, ⟨2, rfl⟩, ⟨3, rfl⟩, ⟨4, rfl⟩, trivial⟩ (tree_spec t.size t V14 _ (Nat.le_refl _) (by omega) (hr.mono (hv1.trans (hv2.trans (hv3.trans (hv4.trans (hv5.trans (hv6.trans (hv7.trans (hv8.trans (hv9.trans (hv10.trans (hv11.trans (hv12.trans (hv13.trans (hv14)))))))))))))))) ?_
                  rintro _ V15 hv15 ⟨dt, rfl, ht⟩
                  obtain ⟨t0, t1, t2, t3, rfl⟩ := ht.shape
                  refine D_call rfl rfl c2012 rfl ⟨⟨0, rfl⟩, ⟨1, rfl⟩, ⟨2, rfl⟩, ⟨3, rfl⟩, ⟨4, rfl⟩, trivial⟩ (accepts_spec (normA (trimA a)) _ _ _ t _ V15 (hB.mono (hv6.trans (hv7.trans (hv8.trans (hv9.trans (hv10.trans (hv11.trans (hv12.trans (hv13.trans (hv14.trans (hv15))))))))))) hrk8 ht (by omega)) ?_
                  rintro _ V16 hv16 rfl
                  rw [acc_trim hae]
                  refine D_call rfl rfl c17 rfl ⟨⟨0, rfl⟩, ⟨1, rfl⟩, ⟨2, rfl⟩, ⟨3, rfl⟩, ⟨4, rfl⟩, trivial⟩ (to_spec a _ _ _ V16 (ha.mono (hv1.trans (hv2.trans (hv3.trans (hv4.trans (hv5.trans (hv6.trans (hv7.trans (hv8.trans (hv9.trans (hv10.trans (hv11.trans (hv12.trans (hv13.trans (hv14.trans (hv15.trans (hv16)))))))))))))))))) ?_
                  rintro _ V17 hv17 ⟨q1, q2, q3, rfl, hq⟩
                  refine D_call rfl rfl c11 rfl ⟨⟨0, rfl⟩, ⟨1, rfl⟩, ⟨2, rfl⟩, ⟨3, rfl⟩, ⟨4, rfl⟩, trivial⟩ (tree_spec t.size t V17 _ (Nat.le_refl _) (by omega) (hr.mono (hv1.trans (hv2.trans (hv3.trans (hv4.trans (hv5.trans (hv6.trans (hv7.trans (hv8.trans (hv9.trans (hv10.trans (hv11.trans (hv12.trans (hv13.trans (hv14.trans (hv15.trans (hv16.trans (hv17))))))))))))))))))) ?_
                  rintro _ V18 hv18 ⟨ds, rfl, hs⟩
                  obtain ⟨s0, s1, s2, s3, rfl⟩ := hs.shape
                  refine D_call rfl rfl c2012 rfl ⟨⟨0, rfl⟩, ⟨1, rfl⟩, ⟨2, rfl⟩, ⟨3, rfl⟩, ⟨4, rfl⟩, trivial⟩ (accepts_spec a _ _ _ t _ V18 (hq.mono hv18) hrk8 hs (by omega)) ?_
                  rintro _ V19 hv19 rfl
                  refine D_val rfl rfl rfl (R_boolEq (by kernel_rfl) rfl rfl) ?_
                  refine D_val rfl rfl rfl (R_pickT rfl rfl) ?_
                  refine D_val rfl rfl rfl (R_assign rfl) ?_
                  refine D_done ?_
                  refine Q_then ?_
                  refine K_ret ?_
                  refine results_gen (rs := [.tmp 4]) (vs := [_]) rfl ⟨rfl, trivial⟩ ?_
                  first | rfl | exact congrArg Value.bool (by simp) | exact congrArg Value.bool (decide_eq_true rfl)
                ·
                  intro h72
                  exact absurd h72 (by decide)
              ·
                intro h67
                exact absurd rfl h67
end Go.Proofs.X
