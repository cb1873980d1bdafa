/-
  Part of the proof: rules for walks, contracts of the functions that the statements reach, plain laws. Own work. No statement of the seat is proved here.
-/
import Derived.Test.YtglmnochbdpmaaaGreatDoorPart3
import Derived.Test.YtglmnochbdpmaaaGreatDoorPart2
namespace Go.Proofs.X
open Go Pal Go.Proofs
attribute [local irreducible] Pal.KO Pal.KC Pal.KQ Pal.KD
theorem z4 : zeroOk Tryz.prog T4 (.bool false) := .of (by kernel_rfl)
theorem z25 : zeroOk Tryz.prog T25 (.slice none 0 0) := .of (by kernel_rfl)
theorem z52 : zeroOk Tryz.prog T52 (.slice none 0 0) := .of (by kernel_rfl)
theorem z2048 : zeroOk Tryz.prog T2048 (.nilFunc) := .of (by kernel_rfl)
theorem c77 : callable Tryz.prog F77 = true := by kernel_rfl
theorem c2045 : callable Tryz.prog F2045 = true := by kernel_rfl
theorem c2056 : callable Tryz.prog F2056 = true := by kernel_rfl
theorem c2057 : callable Tryz.prog F2057 = true := by kernel_rfl
theorem c2058 : callable Tryz.prog F2058 = true := by kernel_rfl
theorem c2059 : callable Tryz.prog F2059 = true := by kernel_rfl
theorem ap52 : App Tryz.prog T52 T4 1 1 := .of sl52 (by kernel_rfl)
set_option maxHeartbeats 1000000 in
theorem ntrim_spec (a : Au) (v1 v2 v3 : Value) (H : View) (ha : RepAu H a v1 v2 v3) : Sat Tryz.prog F2029 #[.agg #[v1, .int .i64 a.states, v2, v3]] H (fun r H' => ∃ v1 v2 v3, r = .tuple #[.agg #[v1, .int .i64 (errAu (auErr a) (normA (trimA a))).states, v2, v3], .int .i64 (auErr a)] ∧ RepAu H' (errAu (auErr a) (normA (trimA a))) v1 v2 v3) := by
  obtain ⟨ar, arc, rfl⟩ := ha.r.shape
  obtain ⟨af, afc, rfl⟩ := ha.f.shape
  obtain ⟨au, auc, rfl⟩ := ha.ushape
  have hab := ha.b
  have hrl := ha.rl
  have hul := ha.ul
  have hfl := ha.fl
  refine enterO (n := 157) (args := [.agg #[.slice ar a.ranks.length arc, .int .i64 a.states, .slice au a.rules.length auc, .slice af a.final.length afc]]) Tryz.func39 rfl rfl rfl fun w0 => ?_
  refine K_seq ?_
  refine K_region ?_
  refine KA (A_box rfl) rfl fun b1 => ?_
  refine KA (A_alloc z50) rfl fun b2 => ?_
  refine KV (R_assign rfl) rfl ?_
  refine K_nil ?_
  refine Q_then ?_
  refine K_seq ?_
  refine K_seq ?_
  refine K_region ?_
  refine KV (R_loadW ty50 1 rfl rfl rfl rfl) rfl ?_
  refine K_call c77 rfl rfl (ncheck_spec a _ _ _ H ha) ?_
  rintro _ V1 hv1 rfl
  refine KV (R_assign rfl) rfl ?_
  refine K_nil ?_
  refine Q_then ?_
  refine K_seq ?_
  refine K_region ?_
  refine KV (R_move rfl) rfl ?_
  refine KV (R_cmp rfl rfl rfl) rfl ?_
  refine K_nil ?_
  refine Q_then ?_
  refine K_if rfl (fun h24 => ?_) (fun h24 => ?_)
  ·
    refine K_seq ?_
    refine K_region ?_
    refine KV (R_build z50 pl50 rfl rfl) rfl ?_
    refine KV (R_move rfl) rfl ?_
    refine K_storeW ty50 0 rfl rfl rfl rfl rfl rfl rfl ?_
    refine KV (R_assign rfl) rfl ?_
    refine K_nil ?_
    refine Q_then ?_
    refine K_ret ?_
    refine Q_then_ret ?_
    refine results_gen (rs := [.cell 2 48, .tmp 3]) (vs := [_, _]) rfl ⟨⟨_, _, _, _, _, _, 0, rfl, rfl, ty50, (fun e => by cases e), rfl, rfl⟩, ⟨rfl, trivial⟩⟩ ?_
    rw [errAu_no h24]
    exact ⟨nilS, nilS, nilS, rfl, RepAu.nil _⟩
  ·
    have hae := Decidable.not_not.1 h24
    have hok := AuOk.of hae
    obtain ⟨hst0, hst1⟩ := hok.st
    have hns : a.states = ((a.states.toNat : Nat) : Int) := by omega
    have hnb : a.states.toNat ≤ 256 := by omega
    refine K_skip ?_
    refine Q_then ?_
    refine K_seq ?_
    refine K_regionD (fin := true) (R := [0, 1, 3, 4, 2, 6, 7, 8, 5, 9]) (by kernel_rfl) mixed (.cons_cons _ (.cons_cons _ (List.nil_sublist _))) ?_
    refine D_val rfl rfl rfl (R_fieldAddr 1 fd50_1 rfl) ?_
    refine D_val rfl rfl rfl (R_loadO ty3 1 rfl rfl rfl rfl (fun _ => rfl) rfl) ?_
    refine D_val rfl rfl rfl (R_fieldAddr 1 fd50_1 rfl) ?_
    refine D_val rfl rfl rfl (R_loadO ty3 1 rfl rfl rfl rfl (fun _ => rfl) rfl) ?_
    refine D_makeSlice rfl rfl rfl ⟨⟨0, rfl⟩, ⟨1, rfl⟩, trivial⟩ (A_makeSlice (k := a.states.toNat) ap52 z4 ty4 (congrArg (fun z => some (Value.int .i64 z)) hns) (congrArg (fun z => some (Value.int .i64 z)) hns) (by omega) (by omega)) fun b29 => ?_
    refine D_alloc rfl rfl rfl (A_alloc z52) fun b5 => ?_
    refine D_alloc rfl rfl rfl (A_alloc z52) fun b6 => ?_
    refine D_storeW ty52 1 rfl rfl rfl rfl rfl ⟨⟨2, rfl⟩, ⟨3, rfl⟩, trivial⟩ rfl rfl rfl rfl ?_
    refine D_makeSlice rfl rfl rfl ⟨⟨3, rfl⟩, ⟨4, rfl⟩, trivial⟩ (A_makeSlice (k := a.states.toNat) ap52 z4 ty4 (congrArg (fun z => some (Value.int .i64 z)) hns) (congrArg (fun z => some (Value.int .i64 z)) hns) (by omega) (by omega)) fun b32 => ?_
    refine D_lastStoreW ty52 2 rfl rfl rfl rfl rfl rfl rfl rfl rfl ?_
    refine KQ_front 1 rfl ?_
    try dsimp only [List.eraseIdx]
    refine KQ_pubF fun Ua hua hb5 => ?_
    skip
    refine KQ_front 1 rfl ?_
    try dsimp only [List.eraseIdx]
    refine KQ_pubF fun Ub hub hb6 => ?_
    skip
    rw [show madeCells (Value.bool false).cells (a.states.toNat * 1) = mkL (noneL a.states.toNat) from mkL_made _]
    have hA5 : At Ub b5 0 [slc a.states.toNat b29] := (At.of hb5).mono hub
    have hA6 : At Ub b6 0 [slc a.states.toNat b32] := At.of hb6
    have hvX := hv1.trans (hua.trans hub)
    refine Q_then ?_
    refine K_seq ?_
    refine K_region ?_
    refine KV (R_makeFunc rfl rfl) rfl ?_
    refine KA (A_alloc z2048) rfl fun b7 => ?_
    refine K_storeW ty2048 0 rfl rfl rfl rfl rfl rfl rfl ?_
    refine K_nil ?_
    refine KQ_front 0 rfl ?_
    try dsimp only [List.eraseIdx]
    refine KQ_pubF fun Uc huc hb7 => ?_
    skip
    have hA7 : At Uc b7 0 [.func (.func F2054) #[] #[ptr b5]] := At.of hb7
    have hvX := hvX.trans huc
    have hA5 := hA5.mono huc
    have hA6 := hA6.mono huc
    have hvis1 : ∀ V m r va, VLe Uc V → m.length = a.states.toNat → r ∈ a.rules → RVok V (r, va) → SatO Tryz.prog F2057 ([] ++ [Value.agg (cellRV (r, va)).toArray] ++ [ptr b5, ptr b7]).toArray V [blk b29 (.cells (mkL m) T4 (0, 0))] (fun v _ p => v = .bool (decide (comeS m r ≠ m)) ∧ p = [blk b29 (.cells (mkL (comeS m r)) T4 (0, 0))]) := fun V m r va hV hm hr hrv => by
      obtain ⟨_, _, _, k4, k5, k6⟩ := hok.ru r hr
      exact come_spec m b5 b7 b29 r va V (by omega) (by rw [hm]; exact hA5.mono hV) (hA7.mono hV) hrv (fun q hq => by have := k4 q hq; omega) (by omega)
    refine Q_then ?_
    refine K_seq ?_
    refine K_region ?_
    refine KV (R_loadW ty50 3 rfl rfl rfl rfl) rfl ?_
    refine KV (R_makeFunc rfl rfl) rfl ?_
    refine KO_sel [1, 0, 0, 0] rfl ?_
    refine K_callO (first := []) [_] _ (List.Perm.refl _) c2056 rfl rfl rfl (close_spec a _ _ _ Uc (ha.mono hvX) F2057 [ptr b5, ptr b7] c2057 comeS up_comeS (fun z => blk b29 (.cells (mkL z) T4 (0, 0))) a.states.toNat hvis1 (noneL a.states.toNat) (List.length_replicate ..)) ?_
    rintro _ V2 q2 hv2 ⟨m, k, rfl, hm, hfix⟩
    dsimp only [List.cons_append, List.nil_append]
    have hm2 : m = iterF (comeF a.rules) k (noneL a.states.toNat) := hm
    have hmc : m = comeA a := hm2.trans (comeA_is (by rw [← hm2]; exact hfix))
    subst hmc
    clear hm hm2 hfix k
    have hvX := hvX.trans hv2
    refine K_nil ?_
    refine KQ_front 0 rfl ?_
    try dsimp only [List.eraseIdx]
    refine KQ_pubF fun Ud hud hb29 => ?_
    skip
    have hm29 : At Ud b29 0 (mkL (comeA a)).toList := At.of hb29
    have hvX := hvX.trans hud
    have hA5 := hA5.mono (hv2.trans hud)
    have hA6 := hA6.mono (hv2.trans hud)
    have hA7 := hA7.mono (hv2.trans hud)
    have hcl := comeA_len a
    have hvis2 : ∀ V m r va, VLe Ud V → m.length = a.states.toNat → r ∈ a.rules → RVok V (r, va) → SatO Tryz.prog F2058 ([] ++ [Value.agg (cellRV (r, va)).toArray] ++ [ptr b6, ptr b7]).toArray V [blk b32 (.cells (mkL m) T4 (0, 0))] (fun v _ p => v = .bool (decide (leadS (comeA a) m r ≠ m)) ∧ p = [blk b32 (.cells (mkL (leadS (comeA a) m r)) T4 (0, 0))]) := fun V m r va hV hm hr hrv => by
      obtain ⟨_, _, _, k4, k5, k6⟩ := hok.ru r hr
      exact lead_spec (comeA a) m b5 b6 b7 b29 b32 r va V (by omega) (by omega) (by rw [hcl]; exact hA5.mono hV) (hm29.mono hV) (by rw [hm]; exact hA6.mono hV) (hA7.mono hV) hrv (fun q hq => by have := k4 q hq; omega) (by omega)
    refine Q_then ?_
    refine K_seq ?_
    refine K_seq ?_
    refine K_region ?_
    refine KV (R_fieldAddr 3 fd50_3 rfl) rfl ?_
    refine KV (R_loadO ty25 2 rfl rfl rfl rfl (fun _ => rfl) rfl) rfl ?_
    refine KV (R_len sl25 rfl) rfl ?_
    refine KV (R_move rfl) rfl ?_
    refine K_nil ?_
    refine Q_then ?_
    refine K_block ?_
    refine K_loopD (G := Nat) [9, 40, 41, 42, 43, 44, 45, 46, 47] (fun g => [(40, .int .i64 (g : Int))]) (fun hl g => (hl.set 0 (blk b32 (.cells (mkL (setsL (noneL a.states.toNat) (a.final.take g))) T4 (0, 0))))) (fun g => Ud) (fun g => (g ≤ a.final.length)) (fun g => a.final.length - g) (0 : Nat) (Nat.zero_le _) ⟨rfl, trivial⟩ (by simp only [args0, Nat.reduceAdd, del, memN, beqN, Nat.reduceBEq, cond_true, cond_false]; rfl) rfl rfl ?_
    rintro k hk
    try dsimp only at hk
    dsimp only [List.set, List.cons_append, List.nil_append]
    have hsl : (setsL (noneL a.states.toNat) (a.final.take k)).length = a.states.toNat := (setsL_len _ _).trans (List.length_replicate ..)
    refine K_seq ?_
    refine K_region ?_
    refine KV (R_cmp rfl rfl rfl) rfl ?_
    refine K_nil ?_
    refine Q_then ?_
    refine K_seq ?_
    refine K_if rfl (fun h41 => ?_) (fun h41 => ?_)
    ·
      have hk' : k < a.final.length := by omega
      obtain ⟨fb, fo, hfe, hfk⟩ := (ha.mono hvX).f.get hk'
      cases hfe
      have hqk := hok.fi _ (List.getElem_mem hk')
      refine K_skip ?_
      refine Q_then ?_
      refine K_seq ?_
      refine K_block ?_
      refine K_seq ?_
      refine K_region ?_
      refine KV (R_indexN sl25 ty3 rfl rfl (by omega)) rfl ?_
      refine KV (R_loadH ty3 rfl (hfk) rfl (fun _ => rfl) rfl) rfl ?_
      refine KV (R_assign rfl) rfl ?_
      refine K_nil ?_
      refine Q_then ?_
      refine K_region ?_
      refine KV (R_loadH ty52 rfl (hA6) rfl (fun _ => rfl) rfl) rfl ?_
      refine KV (R_move rfl) rfl ?_
      refine KV (R_index sl52 ty4 rfl rfl ⟨hqk.1, by omega⟩) rfl ?_
      refine K_storeE ty4 0 rfl rfl rfl rfl (by rw [mkL_size]; show _ + 1 ≤ _; omega) rfl (mkL_put (q := a.final[k]) (by omega) (by omega)) ?_
      refine K_nil ?_
      refine Q_block ?_
      refine Q_then ?_
      refine K_region ?_
      refine KV (R_add rfl rfl (by omega)) rfl ?_
      refine KV (R_move rfl) rfl ?_
      refine K_nil ?_
      refine Q_nextD ((k + 1)) hk' (by (try dsimp only); omega) ⟨rfl, trivial⟩ rfl (by dsimp only [List.set]; rw [setsL_snoc hk']) rfl
    ·
      have hk' : k = a.final.length := by omega
      rw [hk', List.take_length, finL_is]
      refine K_exit ?_
      refine Q_then_exit ?_
      refine Q_then_exit ?_
      refine Q_block_exit ?_
      refine Q_then ?_
      refine K_seq ?_
      refine K_region ?_
      refine KV (R_loadW ty50 2 rfl rfl rfl rfl) rfl ?_
      refine KV (R_makeFunc rfl rfl) rfl ?_
      refine KO_sel [0, 0, 0] rfl ?_
      refine K_callO (first := []) [_] _ (List.Perm.refl _) c2056 rfl rfl rfl (close_spec a _ _ _ Ud (ha.mono hvX) F2058 [ptr b6, ptr b7] c2058 (leadS (comeA a)) (up_leadS (comeA a)) (fun z => blk b32 (.cells (mkL z) T4 (0, 0))) a.states.toNat hvis2 (finL a.final a.states.toNat) (finL_len _ _)) ?_
      rintro _ V3 q3 hv3 ⟨m, k, rfl, hm, hfix⟩
      dsimp only [List.cons_append, List.nil_append]
      have hm2 : m = iterF (leadF (comeA a) a.rules) k (finL a.final a.states.toNat) := hm
      have hmc : m = leadA a := hm2.trans (leadA_is (by rw [← hm2]; exact hfix))
      subst hmc
      clear hm hm2 hfix k
      have hvX := hvX.trans hv3
      refine K_nil ?_
      refine KQ_front 0 rfl ?_
      try dsimp only [List.eraseIdx]
      refine KQ_pubF fun Ue hue hb32 => ?_
      skip
      have hm32 : At Ue b32 0 (mkL (leadA a)).toList := At.of hb32
      have hvX := hvX.trans hue
      have hll := leadA_len a
      have hA5 := hA5.mono (hv3.trans hue)
      have hA6 := hA6.mono (hv3.trans hue)
      have hm29 := hm29.mono (hv3.trans hue)
      refine Q_then ?_
      refine K_seq ?_
      refine K_region ?_
      refine KV (R_fieldAddr 0 fd50_0 rfl) rfl ?_
      refine KV (R_loadO ty47 1 rfl rfl rfl rfl (fun _ => rfl) rfl) rfl ?_
      refine K_call c45 rfl rfl (clone47_spec a.ranks _ Ue (ha.mono hvX).r hrl) ?_
      rintro _ V6 hv6 hcr
      obtain ⟨cra, crc, rfl⟩ := hcr.shape
      have hvX := hvX.trans hv6
      have hA5 := hA5.mono hv6
      have hA6 := hA6.mono hv6
      have hm29 := hm29.mono hv6
      have hm32 := hm32.mono hv6
      refine KV (R_build z50 pl50 rfl rfl) rfl ?_
      refine KA (A_alloc z50) rfl fun b10 => ?_
      refine K_storeW ty50 0 rfl rfl rfl rfl rfl rfl rfl ?_
      refine K_nil ?_
      refine Q_then ?_
      refine K_seq ?_
      refine K_region ?_
      refine KV (R_fieldAddr 1 fd50_1 rfl) rfl ?_
      refine KV (R_loadO ty3 2 rfl rfl rfl rfl (fun _ => rfl) rfl) rfl ?_
      refine KA (A_makeSlice (k := a.states.toNat) ap25 z3 ty3 (congrArg (fun z => some (Value.int .i64 z)) hns) (congrArg (fun z => some (Value.int .i64 z)) hns) (by omega) (by omega)) rfl fun b57 => ?_
      refine KA (A_alloc z25) rfl fun b11 => ?_
      refine K_storeW ty25 0 rfl rfl rfl rfl rfl rfl rfl ?_
      refine K_nil ?_
      refine KQ_front 0 rfl ?_
      try dsimp only [List.eraseIdx]
      refine KQ_pubF fun Uf huf hb11 => ?_
      skip
      have hA11 : At Uf b11 0 [slc a.states.toNat b57] := At.of hb11
      have hvX := hvX.trans huf
      have hA5 := hA5.mono huf
      have hA6 := hA6.mono huf
      have hm29 := hm29.mono huf
      have hm32 := hm32.mono huf
      refine Q_then ?_
      refine K_seq ?_
      refine K_seq ?_
      refine K_region ?_
      refine KV (R_fieldAddr 1 fd50_1 rfl) rfl ?_
      refine KV (R_loadO ty3 3 rfl rfl rfl rfl (fun _ => rfl) rfl) rfl ?_
      refine KV (R_move rfl) rfl ?_
      refine K_nil ?_
      refine Q_then ?_
      refine K_block ?_
      refine K_loopD (G := Nat) [12, 60, 61, 62, 63, 64, 65, 66, 67, 68, 69, 70, 71, 72, 73, 74, 75, 76, 77, 78, 79, 80, 81, 82, 83, 84, 85] (fun g => [(60, .int .i64 (g : Int))]) (fun hl g => ((hl.set 0 (blk b57 (.cells (fnC a.states.toNat (toF a g)) T3 (0, 0)))).set 1 (blk b10 (.cells #[.slice cra a.ranks.length crc, .int .i64 ((cntN a g : Nat) : Int), .slice none 0 0, .slice none 0 0] T50 (0, 0))))) (fun g => Uf) (fun g => (g ≤ a.states.toNat)) (fun g => a.states.toNat - g) (0 : Nat) (Nat.zero_le _) ⟨rfl, trivial⟩ (by simp only [args0, Nat.reduceAdd, del, memN, beqN, Nat.reduceBEq, cond_true, cond_false]; rfl) (by rw [toF_zero, ← fnC_made]; rfl) rfl ?_
      rintro s hs
      try dsimp only at hs
      dsimp only [List.set, List.cons_append, List.nil_append]
      refine K_seq ?_
      refine K_region ?_
      refine KV (R_cmp rfl rfl rfl) rfl ?_
      refine K_nil ?_
      refine Q_then ?_
      refine K_seq ?_
      refine K_if rfl (fun h61 => ?_) (fun h61 => ?_)
      ·
        have hs' : s < a.states.toNat := by omega
        have hcs := hm29.markN (s := s) (by omega)
        have hls := hm32.markN (s := s) (by omega)
        have htl := cntN_le a s
        refine K_skip ?_
        refine Q_then ?_
        refine K_seq ?_
        refine K_block ?_
        refine K_seq ?_
        refine K_region ?_
        refine KV (R_move rfl) rfl ?_
        refine KV (R_assign rfl) rfl ?_
        refine K_nil ?_
        refine Q_then ?_
        refine K_seq ?_
        refine K_region ?_
        refine KV (R_loadH ty25 rfl (hA11) rfl (fun _ => rfl) rfl) rfl ?_
        refine KV (R_move rfl) rfl ?_
        refine KV (R_indexN sl25 ty3 rfl rfl (by omega)) rfl ?_
        refine K_storeE ty3 0 rfl rfl rfl rfl (by rw [fnC_size]; show _ + 1 ≤ _; omega) rfl (fnC_put hs' (by omega) (toG_is a s)) ?_
        refine K_nil ?_
        refine Q_then ?_
        refine K_seq ?_
        refine K_region ?_
        refine KV (R_loadH ty52 rfl (hA5) rfl (fun _ => rfl) rfl) rfl ?_
        refine KV (R_move rfl) rfl ?_
        refine KV (R_indexN sl52 ty4 rfl rfl (by omega)) rfl ?_
        refine KV (R_loadH ty4 rfl (hcs) rfl (fun _ => rfl) rfl) rfl ?_
        refine KV (R_move rfl) rfl ?_
        refine K_splitB ?_ ?_
        ·
          intro h70
          refine K_gyes rfl rfl ?_
          refine KV (R_loadH ty52 rfl (hA6) rfl (fun _ => rfl) rfl) rfl ?_
          refine K_gyes rfl rfl ?_
          refine KV (R_move rfl) rfl ?_
          refine K_gyes rfl rfl ?_
          refine KV (R_indexN sl52 ty4 rfl rfl (by omega)) rfl ?_
          refine K_gyes rfl rfl ?_
          refine KV (R_loadH ty4 rfl (hls) rfl (fun _ => rfl) rfl) rfl ?_
          refine KV (R_pickT rfl rfl) rfl ?_
          refine K_nil ?_
          refine Q_then ?_
          refine K_ifB rfl (fun h75 => ?_) (fun h75 => ?_)
          ·
            have hst : stayA a (s : Int) = true := by unfold stayA; rw [h70, h75]; rfl
            refine K_seq ?_
            refine K_region ?_
            refine KV (R_loadH ty25 rfl (hA11) rfl (fun _ => rfl) rfl) rfl ?_
            refine KV (R_move rfl) rfl ?_
            refine KV (R_fieldAddr 1 fd50_1 rfl) rfl ?_
            refine KV (R_loadO ty3 1 rfl rfl rfl rfl (fun _ => rfl) rfl) rfl ?_
            refine KV (R_indexN sl25 ty3 rfl rfl (by omega)) rfl ?_
            refine K_storeE ty3 0 rfl rfl rfl rfl (by rw [fnC_size]; show _ + 1 ≤ _; omega) rfl (fnC_put hs' (by omega) (toF_stay hst)) ?_
            refine K_nil ?_
            refine Q_then ?_
            refine K_region ?_
            refine KV (R_fieldAddr 1 fd50_1 rfl) rfl ?_
            refine KV (R_loadO ty3 1 rfl rfl rfl rfl (fun _ => rfl) rfl) rfl ?_
            refine KV (R_add rfl rfl (by omega)) rfl ?_
            refine KV (R_fieldAddr 1 fd50_1 rfl) rfl ?_
            refine K_store ty3 1 rfl rfl rfl rfl rfl rfl ?_
            refine K_nil ?_
            refine Q_block ?_
            refine Q_then ?_
            refine K_region ?_
            refine KV (R_add rfl rfl (by omega)) rfl ?_
            refine KV (R_move rfl) rfl ?_
            refine K_nil ?_
            refine Q_nextD ((s + 1)) hs' (by (try dsimp only); omega) ⟨rfl, trivial⟩ rfl (by rw [cntN_succ, if_pos hst]; rfl) rfl
          ·
            have hgone : stayA a (s : Int) = false := by unfold stayA; rw [h70, h75]; rfl
            refine K_skip ?_
            refine Q_block ?_
            refine Q_then ?_
            refine K_region ?_
            refine KV (R_add rfl rfl (by omega)) rfl ?_
            refine KV (R_move rfl) rfl ?_
            refine K_nil ?_
            refine Q_nextD ((s + 1)) hs' (by (try dsimp only); omega) ⟨rfl, trivial⟩ rfl (by rw [toF_gone hgone, cntN_succ, if_neg (by rw [hgone]; decide)]; rfl) rfl
        ·
          intro h70
          have hgone : stayA a (s : Int) = false := by unfold stayA; rw [h70]; rfl
          refine K_gno rfl rfl rfl rfl ?_
          refine K_gno rfl rfl rfl rfl ?_
          refine K_gno rfl rfl rfl rfl ?_
          refine K_gno rfl rfl rfl rfl ?_
          refine KV (R_pickF rfl rfl) rfl ?_
          refine K_nil ?_
          refine Q_then ?_
          refine K_ifF rfl ?_
          refine K_skip ?_
          refine Q_block ?_
          refine Q_then ?_
          refine K_region ?_
          refine KV (R_add rfl rfl (by omega)) rfl ?_
          refine KV (R_move rfl) rfl ?_
          refine K_nil ?_
          refine Q_nextD ((s + 1)) hs' (by (try dsimp only); omega) ⟨rfl, trivial⟩ rfl (by rw [toF_gone hgone, cntN_succ, if_neg (by rw [hgone]; decide)]; rfl) rfl
      ·
        have hs' : s = a.states.toNat := by omega
        subst hs'
        refine K_exit ?_
        refine Q_then_exit ?_
        refine Q_then_exit ?_
        refine Q_block_exit ?_
        refine Q_then ?_
        refine K_seq ?_
        refine KC_front 0 rfl ?_
        try dsimp only [List.eraseIdx]
        refine KC_pubF fun Ug hug hb57 => ?_
        skip
        have htab : At Ug b57 0 (fnC a.states.toNat (toF a a.states.toNat)).toList := At.of hb57
        have hvX := hvX.trans hug
        have hA11 := hA11.mono hug
        have hcr := hcr.mono (huf.trans hug)
        have hnn := cntN_le a a.states.toNat
        refine K_region ?_
        refine KV (R_makeFunc rfl rfl) rfl ?_
        refine KV (R_assign rfl) rfl ?_
        refine K_nil ?_
        refine Q_then ?_
        refine K_seq ?_
        refine K_seq ?_
        refine K_region ?_
        refine KV (R_fieldAddr 2 fd50_2 rfl) rfl ?_
        refine KV (R_loadO ty48 2 rfl rfl rfl rfl (fun _ => rfl) rfl) rfl ?_
        refine KV (R_len sl48 rfl) rfl ?_
        refine KV (R_move rfl) rfl ?_
        refine K_nil ?_
        refine Q_then ?_
        refine K_block ?_
        refine K_nilrow T85 3 ?_
        refine K_loopD (G := Nat × View × Value × List Value) [15, 16, 18, 90, 91, 92, 93, 94, 95, 96, 97, 98, 99, 100, 101, 102, 103, 104, 105, 106, 107, 108, 109, 110, 111, 112, 113, 114, 115, 116, 117, 118, 119, 120, 121, 122, 123, 124, 125, 126, 127, 128, 129, 130, 131, 132, 133] (fun g => [(90, .int .i64 (g.1 : Int))]) (fun hl g => ((hl.set 0 (row g.2.2.1 T85 3 (leftR a (a.rules.take g.1)).length g.2.2.2)).set 1 (blk b10 (.cells #[.slice cra a.ranks.length crc, .int .i64 ((cntN a a.states.toNat : Nat) : Int), g.2.2.1, .slice none 0 0] T50 (0, 0))))) (fun g => g.2.1) (fun g => (g.1 ≤ a.rules.length) ∧ (VLe Ug g.2.1) ∧ (RepL (RepR g.2.1) 3 (leftR a (a.rules.take g.1)) g.2.2.2) ∧ (∃ ad cp, g.2.2.1 = .slice ad (leftR a (a.rules.take g.1)).length cp)) (fun g => a.rules.length - g.1) (0, Ug, nilS, []) ⟨Nat.zero_le _, VLe.refl _, .nil, none, 0, rfl⟩ ⟨rfl, trivial⟩ (by simp only [args0, Nat.reduceAdd, del, memN, beqN, Nat.reduceBEq, cond_true, cond_false]; rfl) rfl rfl ?_
        rintro ⟨k, V, w, cells⟩ ⟨hk, hV, hC, hw⟩
        dsimp only at hk hV hC hw
        dsimp only [List.set, List.cons_append, List.nil_append]
        obtain ⟨wa, wcp, rfl⟩ := hw
        have hlb := leftR_len a (a.rules.take k)
        rw [List.length_take] at hlb
        refine K_seq ?_
        refine K_region ?_
        refine KV (R_cmp rfl rfl rfl) rfl ?_
        refine K_nil ?_
        refine Q_then ?_
        refine K_seq ?_
        refine K_if rfl (fun h91 => ?_) (fun h91 => ?_)
        ·
          have hk' : k < a.rules.length := by omega
          obtain ⟨ub, uo, ucp2, xa, xcp, hue, hrc, hsr, hsym, hto, hxl⟩ := (ha.mono (hvX.trans hV)).rule hk'
          cases hue
          obtain ⟨g1, g2, g3, g4, g5, g6⟩ := hok.ru _ (List.getElem_mem hk')
          refine K_skip ?_
          refine Q_then ?_
          refine K_seq ?_
          refine K_block ?_
          refine K_seq ?_
          refine K_region ?_
          refine KV (R_indexN sl48 ty85 rfl rfl (by omega)) rfl ?_
          refine KV (R_loadH ty85 rfl (hrc) rfl (fun e => by cases e) rfl) rfl ?_
          refine KA (A_alloc z85) rfl fun b15 => ?_
          refine K_storeW ty85 0 rfl rfl rfl rfl rfl rfl rfl ?_
          refine K_nil ?_
          refine Q_then ?_
          refine K_seq ?_
          refine K_seq ?_
          refine K_region ?_
          refine KV (R_move rfl) rfl ?_
          refine KV (R_fieldAddr 2 fd85_2 rfl) rfl ?_
          refine KV (R_loadO ty3 0 rfl rfl rfl rfl (fun _ => rfl) rfl) rfl ?_
          refine K_callO (first := []) [] _ (List.Perm.refl _) c2059 rfl rfl rfl (gone_spec a a.states.toNat b11 b57 a.rules[k].to V (by omega) (hA11.mono hV) (htab.mono hV) ⟨g5, by omega⟩).nil ?_
          rintro _ V1 q97 hv1 ⟨rfl, rfl⟩
          dsimp only [List.nil_append]
          refine KV (R_move rfl) rfl ?_
          refine K_splitB ?_ ?_
          ·
            intro h98
            have hke : keepR a a.rules[k] = false := by unfold keepR; rw [show stayA a a.rules[k].to = false by simpa using h98]; rfl
            refine K_gno rfl rfl rfl rfl ?_
            refine K_gno rfl rfl rfl rfl ?_
            refine K_gno rfl rfl rfl rfl ?_
            refine K_gno rfl rfl rfl rfl ?_
            refine KV (R_pickT rfl rfl) rfl ?_
            refine K_nil ?_
            refine Q_then ?_
            refine K_ifT rfl ?_
            refine K_exit ?_
            refine Q_then_exit ?_
            refine Q_block_exit ?_
            refine Q_then ?_
            refine K_region ?_
            refine KV (R_add rfl rfl (by omega)) rfl ?_
            refine KV (R_move rfl) rfl ?_
            refine K_nil ?_
            refine KQ_sel [1, 1, 1, 1] rfl ?_
            have hno : leftR a (a.rules.take (k + 1)) = leftR a (a.rules.take k) := by rw [leftR_snoc hk', if_neg (by rw [hke]; decide), List.append_nil]
            refine Q_nextD (k + 1, V1, .slice wa (leftR a (a.rules.take k)).length wcp, cells) ⟨hk', hV.trans hv1, by rw [hno]; exact hC.imp fun x cs h => h.mono hv1, _, _, by rw [hno]⟩ (by (try dsimp only); omega) ⟨rfl, trivial⟩ rfl (by dsimp only [List.set]; rw [hno]; rfl) rfl
          ·
            intro h98
            have hst : stayA a a.rules[k].to = true := by simpa using h98
            refine K_gyes rfl rfl ?_
            refine KV (R_fieldAddr 1 fd85_1 rfl) rfl ?_
            refine K_gyes rfl rfl ?_
            refine KV (R_loadO ty25 0 rfl rfl rfl rfl (fun _ => rfl) rfl) rfl ?_
            refine K_gyes rfl rfl ?_
            refine KV (R_move rfl) rfl ?_
            refine K_gyes rfl rfl ?_
            refine K_call c86 rfl rfl (sicon_spec F2059 [ptr b11] (fun q => !stayA a q) a.rules[k].args _ V1 (hsr.mono hv1) hxl c2059 (fun x V2 hx hV2 => gone_spec a a.states.toNat b11 b57 x V2 (by omega) (hA11.mono (hV.trans (hv1.trans hV2))) (htab.mono (hV.trans (hv1.trans hV2))) (by have := g4 x hx; omega))) ?_
            rintro _ V2 hv2 rfl
            refine KV (R_pickF rfl rfl) rfl ?_
            refine K_nil ?_
            refine Q_then ?_
            refine K_ifB rfl (fun h103 => ?_) (fun h103 => ?_)
            ·
              have hke : keepR a a.rules[k] = false := by
                unfold keepR
                obtain ⟨x, hx, hx2⟩ := List.any_eq_true.1 h103
                rw [Bool.and_eq_false_iff]; right
                exact List.all_eq_false.2 ⟨x, hx, by simpa using hx2⟩
              refine K_exit ?_
              refine Q_then_exit ?_
              refine Q_block_exit ?_
              refine Q_then ?_
              refine K_region ?_
              refine KV (R_add rfl rfl (by omega)) rfl ?_
              refine KV (R_move rfl) rfl ?_
              refine K_nil ?_
              refine KQ_sel [1, 1, 1, 1] rfl ?_
              have hno : leftR a (a.rules.take (k + 1)) = leftR a (a.rules.take k) := by rw [leftR_snoc hk', if_neg (by rw [hke]; decide), List.append_nil]
              refine Q_nextD (k + 1, V2, .slice wa (leftR a (a.rules.take k)).length wcp, cells) ⟨hk', hV.trans (hv1.trans hv2), by rw [hno]; exact hC.imp fun x cs h => h.mono (hv1.trans hv2), _, _, by rw [hno]⟩ (by (try dsimp only); omega) ⟨rfl, trivial⟩ rfl (by dsimp only [List.set]; rw [hno]; rfl) rfl
            ·
              have hall : ∀ y ∈ a.rules[k].args, stayA a y = true := fun y hy => by simpa using (List.any_eq_false.1 h103 y hy)
              have hke : keepR a a.rules[k] = true := keepR_iff.2 ⟨hst, hall⟩
              refine K_skip ?_
              refine Q_then ?_
              refine K_seq ?_
              refine K_region ?_
              refine KV (R_assign rfl) rfl ?_
              refine K_nil ?_
              refine Q_then ?_
              refine K_seq ?_
              refine K_seq ?_
              refine K_region ?_
              refine KV (R_fieldAddr 1 fd85_1 rfl) rfl ?_
              refine KV (R_loadO ty25 0 rfl rfl rfl rfl (fun _ => rfl) rfl) rfl ?_
              refine KV (R_len sl25 rfl) rfl ?_
              refine KV (R_move rfl) rfl ?_
              refine K_nil ?_
              refine Q_then ?_
              refine K_block ?_
              refine K_nilrow T3 1 ?_
              refine K_loopD (G := Nat × Value) [16, 18, 107, 108, 109, 110, 111, 112, 113, 114, 115, 116, 117, 118] (fun g => [(107, .int .i64 (g.1 : Int)), (16, g.2)]) (fun hl g => (hl.set 0 (row g.2 T3 1 g.1 (ints ((a.rules[k].args.take g.1).map (newA a)))))) (fun g => V2) (fun g => (g.1 ≤ a.rules[k].args.length) ∧ (∃ ad cp, g.2 = .slice ad g.1 cp)) (fun g => a.rules[k].args.length - g.1) (0, nilS) ⟨Nat.zero_le _, none, 0, rfl⟩ ⟨rfl, rfl, trivial⟩ (by simp only [args0, Nat.reduceAdd, del, memN, beqN, Nat.reduceBEq, cond_true, cond_false]; rfl) rfl rfl ?_
              rintro ⟨j, w3⟩ ⟨hj, hw3⟩
              dsimp only at hj hw3
              dsimp only [List.set, List.cons_append, List.nil_append]
              obtain ⟨xa3, xcp3, rfl⟩ := hw3
              refine K_seq ?_
              refine K_region ?_
              refine KV (R_cmp rfl rfl rfl) rfl ?_
              refine K_nil ?_
              refine Q_then ?_
              refine K_seq ?_
              refine K_if rfl (fun h108 => ?_) (fun h108 => ?_)
              ·
                have hj' : j < a.rules[k].args.length := by omega
                obtain ⟨tb, to_, hte, hxj⟩ := (hsr.mono (hv1.trans hv2)).get hj'
                cases hte
                have hqj := g4 _ (List.getElem_mem hj')
                have htj := htab.fn (q := a.rules[k].args[j]) (by omega)
                rw [toF_full (by omega), newV_new (hall _ (List.getElem_mem hj')) hqj.1] at htj
                refine K_skip ?_
                refine Q_then ?_
                refine K_seq ?_
                refine K_block ?_
                refine K_seq ?_
                refine K_region ?_
                refine KV (R_indexN sl25 ty3 rfl rfl (by omega)) rfl ?_
                refine KV (R_loadH ty3 rfl (hxj) rfl (fun _ => rfl) rfl) rfl ?_
                refine KV (R_assign rfl) rfl ?_
                refine K_nil ?_
                refine Q_then ?_
                refine K_region ?_
                refine KV (R_move rfl) rfl ?_
                refine KV (R_loadH ty25 rfl (hA11.mono (hV.trans (hv1.trans hv2))) rfl (fun _ => rfl) rfl) rfl ?_
                refine KV (R_move rfl) rfl ?_
                refine KV (R_index sl25 ty3 rfl rfl ⟨hqj.1, by omega⟩) rfl ?_
                refine KV (R_loadH ty3 rfl (htj.mono (hV.trans (hv1.trans hv2))) rfl (fun _ => rfl) rfl) rfl ?_
                refine KA (A_buildSlice (vs := [.int .i64 (newA a a.rules[k].args[j])]) sl25 ty3 z3 rfl rfl (by simp [Value.cells]) (by simp) rfl (by decide)) rfl fun b116 => ?_
                refine K_append1 0 ap25 rfl rfl rfl rfl rfl rfl ⟨by omega, by omega⟩ rfl fun a117 k117 hn117 => ?_
                refine KV (R_assign rfl) rfl ?_
                refine K_nil ?_
                refine Q_block ?_
                refine Q_then ?_
                refine K_region ?_
                refine KV (R_add rfl rfl (by omega)) rfl ?_
                refine KV (R_move rfl) rfl ?_
                refine K_nil ?_
                refine Q_nextD (j + 1, .slice a117 (j + 1) k117) ⟨hj', _, _, rfl⟩ (by (try dsimp only); omega) ⟨rfl, rfl, trivial⟩ rfl (by dsimp only; rw [take_ints_snoc hj']; rfl) rfl
              ·
                have hj' : j = a.rules[k].args.length := by omega
                subst hj'
                rw [List.take_length]
                refine K_exit ?_
                refine Q_then_exit ?_
                refine Q_then_exit ?_
                refine Q_block_exit ?_
                refine Q_then ?_
                refine KC_front 0 rfl ?_
                try dsimp only [List.eraseIdx]
                refine KC_pubrow rfl fun V3 hv3 hrowp => ?_
                skip
                have hva := hv1.trans (hv2.trans hv3)
                have hRR : RepR V3 (newR a a.rules[k]) [.int .i64 a.rules[k].sym, .slice xa3 a.rules[k].args.length xcp3, .int .i64 (newA a a.rules[k].to)] := by
                  have e : (newR a a.rules[k]).args.length = a.rules[k].args.length := List.length_map ..
                  have hnb := newA_bound hst ⟨g5, g6⟩
                  refine ⟨xa3, xcp3, by rw [e]; rfl, ?_, hsym, by show i64ok (newA a a.rules[k].to); simp only [i64ok]; omega, by rw [e]; exact hxl⟩
                  rw [e]
                  refine ⟨by show SlAt _ _ (a.rules[k].args.map (newA a)).length _; rw [List.length_map]; exact hrowp.sl, fun x hx => ?_⟩
                  obtain ⟨y, hy, rfl⟩ := List.mem_map.1 (show x ∈ a.rules[k].args.map (newA a) from hx)
                  have hnb2 := newA_bound (hall y hy) (g4 y hy)
                  simp only [i64ok]; omega
                have hto2 := htab.fn (q := a.rules[k].to) (by omega)
                rw [toF_full (by omega), newV_new hst g5] at hto2
                refine K_regionD (fin := true) (R := [0, 1, 2, 3, 4, 5, 6, 7, 8, 9, 10, 11, 12, 13, 14]) (by kernel_rfl) mixed (.cons_cons _ (.cons _ (.cons_cons _ (.cons_cons _ (.cons_cons _ (List.nil_sublist _)))))) ?_
                refine D_val rfl rfl rfl (R_fieldAddr 2 fd50_2 rfl) ?_
                refine D_val rfl rfl rfl (R_loadO ty48 1 rfl rfl rfl rfl (fun _ => rfl) rfl) ?_
                refine D_val rfl rfl rfl (R_fieldAddr 0 fd85_0 rfl) ?_
                refine D_val rfl rfl rfl (R_loadO ty3 0 rfl rfl rfl rfl (fun _ => rfl) rfl) ?_
                refine D_val rfl rfl rfl (R_move rfl) ?_
                refine D_val rfl rfl rfl (R_loadH ty25 rfl (hA11.mono (hV.trans hva)) rfl (fun _ => rfl) rfl) ?_
                refine D_val rfl rfl rfl (R_fieldAddr 2 fd85_2 rfl) ?_
                refine D_val rfl rfl rfl (R_loadO ty3 0 rfl rfl rfl rfl (fun _ => rfl) rfl) ?_
                refine D_val rfl rfl rfl (R_index sl25 ty3 rfl rfl ⟨g5, by omega⟩) ?_
                refine D_val rfl rfl rfl (R_loadH ty3 rfl (hto2.mono (hV.trans hva)) rfl (fun _ => rfl) rfl) ?_
                refine D_val rfl rfl rfl (R_build z85 pl85 rfl rfl) ?_
                refine D_alloc rfl rfl rfl (A_buildSlice (vs := [.agg #[.int .i64 a.rules[k].sym, .slice xa3 a.rules[k].args.length xcp3, .int .i64 (newA a a.rules[k].to)]]) sl48 ty85 z85 rfl rfl (by simp [Value.cells]) (by simp) rfl (by decide)) fun b130 => ?_
                refine D_append1 1 ap48 rfl rfl rfl rfl rfl rfl ⟨⟨0, rfl⟩, ⟨1, rfl⟩, ⟨2, rfl⟩, ⟨3, rfl⟩, trivial⟩ rfl rfl ⟨by omega, by omega⟩ fun a131 k131 hn131 => ?_
                refine D_val rfl rfl rfl (R_fieldAddr 2 fd50_2 rfl) ?_
                refine D_lastStore ty48 2 rfl rfl rfl rfl rfl rfl rfl rfl ?_
                refine Q_block ?_
                refine Q_then ?_
                refine K_region ?_
                refine KV (R_add rfl rfl (by omega)) rfl ?_
                refine KV (R_move rfl) rfl ?_
                refine K_nil ?_
                refine KQ_sel [0, 1, 1, 1] rfl ?_
                have hyes : leftR a (a.rules.take (k + 1)) = leftR a (a.rules.take k) ++ [newR a a.rules[k]] := by rw [leftR_snoc hk', if_pos hke]
                refine Q_nextD (k + 1, V3, .slice a131 ((leftR a (a.rules.take k)).length + 1) k131, cells ++ [.int .i64 a.rules[k].sym, .slice xa3 a.rules[k].args.length xcp3, .int .i64 (newA a a.rules[k].to)]) ⟨hk', hV.trans hva, by rw [hyes]; exact (hC.imp fun x cs h => h.mono hva).snoc hRR rfl, _, _, by rw [hyes, List.length_append (bs := [_])]; rfl⟩ (by (try dsimp only); omega) ⟨rfl, trivial⟩ rfl (by dsimp only [List.set]; rw [hyes, List.length_append (bs := [_])]; rfl) rfl
        ·
          have hk' : k = a.rules.length := by omega
          subst hk'
          rw [List.take_length] at hC
          rw [List.take_length]
          refine K_exit ?_
          refine Q_then_exit ?_
          refine Q_then_exit ?_
          refine Q_block_exit ?_
          refine Q_then ?_
          refine K_seq ?_
          refine K_seq ?_
          refine K_region ?_
          refine KV (R_fieldAddr 3 fd50_3 rfl) rfl ?_
          refine KV (R_loadO ty25 3 rfl rfl rfl rfl (fun _ => rfl) rfl) rfl ?_
          refine KV (R_len sl25 rfl) rfl ?_
          refine KV (R_move rfl) rfl ?_
          refine K_nil ?_
          refine Q_then ?_
          refine K_block ?_
          refine KC_front 0 rfl ?_
          try dsimp only [List.eraseIdx]
          refine KC_pubrow rfl fun Ur hur hrowR => ?_
          skip
          have hvQ := hV
          have hvR := hur
          have hC := hC.imp fun x cs h => h.mono hur
          clear hV
          refine K_nilrow T3 1 ?_
          refine K_loopD (G := Nat × View × Value) [20, 137, 138, 139, 140, 141, 142, 143, 144, 145, 146, 147, 148, 149, 150, 151, 152, 153, 154] (fun g => [(137, .int .i64 (g.1 : Int))]) (fun hl g => ((hl.set 0 (row g.2.2 T3 1 (leftF a (a.final.take g.1)).length (ints (leftF a (a.final.take g.1))))).set 1 (blk b10 (.cells #[.slice cra a.ranks.length crc, .int .i64 ((cntN a a.states.toNat : Nat) : Int), .slice wa (leftR a a.rules).length wcp, g.2.2] T50 (0, 0))))) (fun g => g.2.1) (fun g => (g.1 ≤ a.final.length) ∧ (VLe Ur g.2.1) ∧ (∃ ad cp, g.2.2 = .slice ad (leftF a (a.final.take g.1)).length cp)) (fun g => a.final.length - g.1) (0, Ur, nilS) ⟨Nat.zero_le _, VLe.refl _, none, 0, rfl⟩ ⟨rfl, trivial⟩ (by simp only [args0, Nat.reduceAdd, del, memN, beqN, Nat.reduceBEq, cond_true, cond_false]; rfl) rfl rfl ?_
          rintro ⟨k, V, f⟩ ⟨hk, hV, hf⟩
          dsimp only at hk hV hf
          dsimp only [List.set, List.cons_append, List.nil_append]
          obtain ⟨fa, fcp, rfl⟩ := hf
          have hlb := leftF_len a (a.final.take k)
          rw [List.length_take] at hlb
          refine K_seq ?_
          refine K_region ?_
          refine KV (R_cmp rfl rfl rfl) rfl ?_
          refine K_nil ?_
          refine Q_then ?_
          refine K_seq ?_
          refine K_if rfl (fun h138 => ?_) (fun h138 => ?_)
          ·
            have hk' : k < a.final.length := by omega
            obtain ⟨fb, fo, hfe, hfk⟩ := (ha.mono (hvX.trans (hvQ.trans (hvR.trans hV)))).f.get hk'
            cases hfe
            have hqk := hok.fi _ (List.getElem_mem hk')
            refine K_skip ?_
            refine Q_then ?_
            refine K_seq ?_
            refine K_block ?_
            refine K_seq ?_
            refine K_region ?_
            refine KV (R_indexN sl25 ty3 rfl rfl (by omega)) rfl ?_
            refine KV (R_loadH ty3 rfl (hfk) rfl (fun _ => rfl) rfl) rfl ?_
            refine KV (R_assign rfl) rfl ?_
            refine K_nil ?_
            refine Q_then ?_
            refine K_seq ?_
            refine K_region ?_
            refine KV (R_move rfl) rfl ?_
            refine KV (R_move rfl) rfl ?_
            refine K_callO (first := []) [] _ (List.Perm.refl _) c2059 rfl rfl rfl (gone_spec a a.states.toNat b11 b57 a.final[k] V (by omega) (hA11.mono (hvQ.trans (hvR.trans hV))) (htab.mono (hvQ.trans (hvR.trans hV))) ⟨hqk.1, by omega⟩).nil ?_
            rintro _ V1 q143 hv1 ⟨rfl, rfl⟩
            dsimp only [List.nil_append]
            refine KV (R_not rfl) rfl ?_
            refine K_nil ?_
            refine Q_then ?_
            refine K_ifB rfl (fun h144 => ?_) (fun h144 => ?_)
            ·
              have hst : stayA a a.final[k] = true := by simpa using h144
              have hto3 := htab.fn (q := a.final[k]) (by omega)
              rw [toF_full (by omega), newV_new hst hqk.1] at hto3
              refine K_regionD (fin := true) (R := [0, 1, 2, 3, 4, 5, 6, 7, 8, 9]) (by kernel_rfl) mixed (.cons _ (.cons_cons _ (.cons_cons _ (.cons_cons _ (List.nil_sublist _))))) ?_
              refine D_val rfl rfl rfl (R_fieldAddr 3 fd50_3 rfl) ?_
              refine D_val rfl rfl rfl (R_loadO ty25 0 rfl rfl rfl rfl (fun _ => rfl) rfl) ?_
              refine D_val rfl rfl rfl (R_loadH ty25 rfl (hA11.mono (hvQ.trans (hvR.trans (hV.trans hv1)))) rfl (fun _ => rfl) rfl) ?_
              refine D_val rfl rfl rfl (R_move rfl) ?_
              refine D_val rfl rfl rfl (R_index sl25 ty3 rfl rfl ⟨hqk.1, by omega⟩) ?_
              refine D_val rfl rfl rfl (R_loadH ty3 rfl (hto3.mono (hvQ.trans (hvR.trans (hV.trans hv1)))) rfl (fun _ => rfl) rfl) ?_
              refine D_alloc rfl rfl rfl (A_buildSlice (vs := [.int .i64 (newA a a.final[k])]) sl25 ty3 z3 rfl rfl (by simp [Value.cells]) (by simp) rfl (by decide)) fun b151 => ?_
              refine D_append1 0 ap25 rfl rfl rfl rfl rfl rfl ⟨⟨0, rfl⟩, ⟨1, rfl⟩, ⟨2, rfl⟩, trivial⟩ rfl rfl ⟨by omega, by omega⟩ fun a152 k152 hn152 => ?_
              refine D_val rfl rfl rfl (R_fieldAddr 3 fd50_3 rfl) ?_
              refine D_lastStore ty25 1 rfl rfl rfl rfl rfl rfl rfl rfl ?_
              refine Q_block ?_
              refine Q_then ?_
              refine K_region ?_
              refine KV (R_add rfl rfl (by omega)) rfl ?_
              refine KV (R_move rfl) rfl ?_
              refine K_nil ?_
              have hyes : leftF a (a.final.take (k + 1)) = leftF a (a.final.take k) ++ [newA a a.final[k]] := by rw [leftF_snoc hk', if_pos hst]
              refine Q_nextD (k + 1, V1, .slice a152 ((leftF a (a.final.take k)).length + 1) k152) ⟨hk', hV.trans hv1, _, _, by rw [hyes, List.length_append (bs := [_])]; rfl⟩ (by (try dsimp only); omega) ⟨rfl, trivial⟩ rfl (by dsimp only [List.set]; rw [hyes, List.length_append (bs := [_]), ints_snoc]; rfl) rfl
            ·
              have hst : stayA a a.final[k] = false := by simpa using h144
              refine K_skip ?_
              refine Q_block ?_
              refine Q_then ?_
              refine K_region ?_
              refine KV (R_add rfl rfl (by omega)) rfl ?_
              refine KV (R_move rfl) rfl ?_
              refine K_nil ?_
              have hno : leftF a (a.final.take (k + 1)) = leftF a (a.final.take k) := by rw [leftF_snoc hk', if_neg (by rw [hst]; decide), List.append_nil]
              refine Q_nextD (k + 1, V1, .slice fa (leftF a (a.final.take k)).length fcp) ⟨hk', hV.trans hv1, _, _, by rw [hno]⟩ (by (try dsimp only); omega) ⟨rfl, trivial⟩ rfl (by dsimp only [List.set]; rw [hno]) rfl
          ·
            have hk' : k = a.final.length := by omega
            subst hk'
            rw [List.take_length]
            refine K_exit ?_
            refine Q_then_exit ?_
            refine Q_then_exit ?_
            refine Q_block_exit ?_
            refine Q_then ?_
            refine K_seq ?_
            refine KC_front 0 rfl ?_
            try dsimp only [List.eraseIdx]
            refine KC_pubrow rfl fun Uz huz hrowF => ?_
            skip
            have hI : RepAu Uz (trimA a) (.slice cra a.ranks.length crc) (.slice wa (leftR a a.rules).length wcp) (.slice fa (leftF a a.final).length fcp) := by
              have hv7 := hvR.trans (hV.trans huz)
              refine ⟨hcr.mono (hvQ.trans hv7), ⟨cells, hrowR.sl.mono (hV.trans huz), hC.imp fun x cs h => h.mono (hV.trans huz)⟩, ⟨hrowF.sl, fun x hx => ?_⟩, by show i64ok ((cntN a a.states.toNat : Nat) : Int); simp only [i64ok]; omega, hrl, Nat.le_trans (leftR_len a a.rules) hul, Nat.le_trans (leftF_len a a.final) hfl⟩
              obtain ⟨y, hy, rfl⟩ := List.mem_map.1 (show x ∈ leftF a a.final from hx)
              obtain ⟨hy1, hy2⟩ := List.mem_filter.1 hy
              have hnb2 := newA_bound hy2 (hok.fi y hy1)
              simp only [i64ok]; omega
            refine K_region ?_
            refine KV (R_loadW ty50 0 rfl rfl rfl rfl) rfl ?_
            refine K_call c2045 rfl rfl (sortedS_spec (trimA a) _ _ _ Uz hI) ?_
            rintro _ V9 hv9 ⟨s1, s2, s3, rfl, hS⟩
            obtain ⟨sr, src, rfl⟩ := hS.r.shape
            obtain ⟨sf, sfc, rfl⟩ := hS.f.shape
            obtain ⟨su, suc, rfl⟩ := hS.ushape
            refine K_storeW ty50 1 rfl rfl rfl rfl rfl rfl rfl ?_
            refine KV (R_assign rfl) rfl ?_
            refine K_nil ?_
            refine Q_then ?_
            refine K_ret ?_
            refine results_gen (rs := [.cell 2 48, .tmp 3]) (vs := [_, _]) rfl ⟨⟨_, _, _, _, _, _, 1, rfl, rfl, ty50, (fun e => by cases e), rfl, rfl⟩, ⟨rfl, trivial⟩⟩ ?_
            rw [hae, errAu_ok rfl]
            exact ⟨_, _, _, rfl, hS⟩
end Go.Proofs.X

namespace Go.Proofs.X
open Go Pal Go.Proofs
attribute [local irreducible] Pal.KO Pal.KC Pal.KQ Pal.KD
theorem fd30_0 : fldOk Tryz.prog T30 0 0 = true := by kernel_rfl
theorem c2122 : callable Tryz.prog F2122 = true := by kernel_rfl
end Go.Proofs.X

namespace Go.Proofs.X
open Go Pal Go.Proofs
attribute [local irreducible] Pal.KO Pal.KC Pal.KQ Pal.KD
theorem ty2184 : Ty Tryz.prog T2184 true 3 := .of (by kernel_rfl)
theorem sl2161 : slcOk Tryz.prog T2161 T2184 := by unfold slcOk; kernel_rfl
theorem z2184 : zeroOk Tryz.prog T2184 (.agg #[.int .i64 0, .slice none 0 0, .int .i64 0]) := .of (by kernel_rfl)
theorem pl30 : placesOk Tryz.prog T30 [(0, 1), (1, 1)] := ⟨_, Tryz.underlying57, by kernel_rfl⟩
theorem pl2184 : placesOk Tryz.prog T2184 [(0, 1), (1, 1), (2, 1)] := ⟨_, Tryz.underlying131, by kernel_rfl⟩
theorem c2184 : callable Tryz.prog F2184 = true := by kernel_rfl
theorem c2186 : callable Tryz.prog F2186 = true := by kernel_rfl
theorem c2200 : callable Tryz.prog F2200 = true := by kernel_rfl
theorem ap28 : App Tryz.prog T28 T30 2 32 := .of sl28 (by kernel_rfl)
theorem ap2161 : App Tryz.prog T2161 T2184 3 40 := .of sl2161 (by kernel_rfl)
theorem cmpf_spec (gf : Nat) (hcal : callable Tryz.prog gf = true) (ts us : List Tr) (H : View) (a1 a2 : Option Addr) (k1 k2 : Nat) (cx cy : List Value) (hlen : ts.length = us.length) (hb : ts.length ≤ 1099511627776) (hS1 : SlAt H (.slice a1 ts.length k1) ts.length cx) (hL1 : RepL (RepT H) 2 ts cx) (hS2 : SlAt H (.slice a2 us.length k2) us.length cy) (hL2 : RepL (RepT H) 2 us cy)
    (hf : ∀ V (i : Nat) (h1 : i < ts.length) (h2 : i < us.length) cs ds, RepT V ts[i] cs → RepT V us[i] ds → Sat Tryz.prog gf ([] ++ [Value.agg cs.toArray, .agg ds.toArray] ++ []).toArray V (fun v _ => v = .int .i64 (Tr.cmp ts[i] us[i]))) :
    Sat Tryz.prog F2200 #[.slice a1 ts.length k1, .slice a2 us.length k2, .func (.func gf) #[] #[]] H (fun v _ => v = .int .i64 (Tr.cmps ts us)) := by
  refine enterO (n := 39) (args := [.slice a1 ts.length k1, .slice a2 us.length k2, .func (.func gf) #[] #[]]) Tryz.func101 rfl rfl rfl fun w0 => ?_
  refine K_seq ?_
  refine K_region ?_
  refine KV (R_assign rfl) rfl ?_
  refine K_nil ?_
  refine Q_then ?_
  refine K_seq ?_
  refine K_seq ?_
  refine K_region ?_
  refine KV (R_move rfl) rfl ?_
  refine KV (R_len sl28 rfl) rfl ?_
  refine KV (R_move rfl) rfl ?_
  refine K_nil ?_
  refine Q_then ?_
  refine K_block ?_
  refine K_loopD (G := Nat × View) [6, 7, 8, 9, 10, 13, 14, 15, 16, 17, 18, 19, 20, 21, 22, 23, 24, 25, 26, 27, 28, 29, 30, 31, 32, 33] (fun g => [(13, .int .i64 (g.1 : Int))]) (fun hl g => hl) (fun g => g.2) (fun g => (g.1 ≤ ts.length) ∧ (VLe H g.2) ∧ (Tr.cmps ts us = Tr.cmps (ts.drop g.1) (us.drop g.1))) (fun g => ts.length - g.1) (0, H) ⟨Nat.zero_le _, VLe.refl _, rfl⟩ ⟨rfl, trivial⟩ (by simp only [args0, Nat.reduceAdd, del, memN, beqN, Nat.reduceBEq, cond_true, cond_false]; rfl) rfl rfl ?_
  rintro ⟨k, V⟩ ⟨hk0, hV, hc⟩
  dsimp only at hk0 hV hc
  dsimp only [List.set, List.cons_append, List.nil_append]
  refine K_seq ?_
  refine K_region ?_
  refine KV (R_cmp rfl rfl rfl) rfl ?_
  refine K_nil ?_
  refine Q_then ?_
  refine K_seq ?_
  refine K_if rfl (fun h14 => ?_) (fun h14 => ?_)
  ·
    have hk' : k < ts.length := by omega
    have hk2 : k < us.length := by omega
    obtain ⟨xb, xo, xcs, xe, xcl, xR, xA⟩ := (SlAt.mono hS1 hV).elem (hL1.imp fun x cs h => h.mono hV) (i := k) hk' rfl
    cases xe
    obtain ⟨x0, x1, x2, x3, rfl⟩ := xR.shape
    obtain ⟨yb, yo, ycs, ye, ycl, yR, yA⟩ := (SlAt.mono hS2 hV).elem (hL2.imp fun x cs h => h.mono hV) (i := k) hk2 rfl
    cases ye
    obtain ⟨y0, y1, y2, y3, rfl⟩ := yR.shape
    refine K_skip ?_
    refine Q_then ?_
    refine K_seq ?_
    refine K_block ?_
    refine K_seq ?_
    refine K_region ?_
    refine KV (R_move rfl) rfl ?_
    refine KV (R_indexN sl28 ty30 rfl rfl (by omega)) rfl ?_
    refine KV (R_loadH ty30 rfl (xA) rfl (fun e => by cases e) rfl) rfl ?_
    refine KA (A_alloc z30) rfl fun b8 => ?_
    refine KV (R_assign rfl) rfl ?_
    refine K_storeW ty30 0 rfl rfl rfl rfl rfl rfl rfl ?_
    refine K_nil ?_
    refine Q_then ?_
    refine K_seq ?_
    refine K_seq ?_
    refine K_region ?_
    refine KV (R_move rfl) rfl ?_
    refine KV (R_move rfl) rfl ?_
    refine KV (R_len sl28 rfl) rfl ?_
    refine KV (R_cmp rfl rfl rfl) rfl ?_
    refine K_nil ?_
    refine Q_then ?_
    refine K_if rfl (fun h21 => ?_) (fun h21 => ?_)
    ·
      exact absurd h21 (by omega)
    ·
      refine K_skip ?_
      refine Q_then ?_
      refine K_seq ?_
      refine K_region ?_
      refine KV (R_move rfl) rfl ?_
      refine KV (R_move rfl) rfl ?_
      refine KV (R_indexN sl28 ty30 rfl rfl (by omega)) rfl ?_
      refine KV (R_loadH ty30 rfl (yA) rfl (fun e => by cases e) rfl) rfl ?_
      refine KA (A_alloc z30) rfl fun b9 => ?_
      refine K_storeW ty30 0 rfl rfl rfl rfl rfl rfl rfl ?_
      refine K_nil ?_
      refine Q_then ?_
      refine K_seq ?_
      refine K_region ?_
      refine KV (R_move rfl) rfl ?_
      refine KV (R_loadW ty30 1 rfl rfl rfl rfl) rfl ?_
      refine KV (R_loadW ty30 0 rfl rfl rfl rfl) rfl ?_
      refine K_callV hcal rfl rfl rfl (hf V k hk' hk2 _ _ xR yR) ?_
      rintro _ V2 hv2 rfl
      refine KV (R_assign rfl) rfl ?_
      refine K_nil ?_
      refine Q_then ?_
      refine K_seq ?_
      refine K_region ?_
      refine KV (R_move rfl) rfl ?_
      refine KV (R_cmp rfl rfl rfl) rfl ?_
      refine K_nil ?_
      refine Q_then ?_
      refine K_if rfl (fun h31 => ?_) (fun h31 => ?_)
      ·
        refine K_seq ?_
        refine K_region ?_
        refine KV (R_move rfl) rfl ?_
        refine KV (R_assign rfl) rfl ?_
        refine K_nil ?_
        refine Q_then ?_
        refine K_ret ?_
        refine Q_block_ret ?_
        refine Q_then_ret ?_
        refine Q_then_ret ?_
        refine Q_block_ret ?_
        refine Q_then_ret ?_
        refine results_gen (rs := [.tmp 6]) (vs := [_]) rfl ⟨rfl, trivial⟩ ?_
        rw [hc, Tr.cmps_drop hk' hk2, if_pos h31]
        rfl
      ·
        have hc2 := hc.trans (by rw [Tr.cmps_drop hk' hk2, if_neg h31] : _ = Tr.cmps (ts.drop (k + 1)) (us.drop (k + 1)))
        refine K_skip ?_
        refine Q_block ?_
        refine Q_then ?_
        refine K_region ?_
        refine KV (R_add rfl rfl (by omega)) rfl ?_
        refine KV (R_move rfl) rfl ?_
        refine K_nil ?_
        refine KQ_sel [] rfl ?_
        refine Q_nextD (k + 1, V2) ⟨hk', hV.trans hv2, hc2⟩ (by (try dsimp only); omega) ⟨rfl, trivial⟩ rfl rfl rfl
  ·
    have hk' : k = ts.length := by omega
    refine K_exit ?_
    refine Q_then_exit ?_
    refine Q_then_exit ?_
    refine Q_block_exit ?_
    refine Q_then ?_
    refine K_seq ?_
    refine K_seq ?_
    refine K_region ?_
    refine KV (R_move rfl) rfl ?_
    refine KV (R_len sl28 rfl) rfl ?_
    refine KV (R_move rfl) rfl ?_
    refine KV (R_len sl28 rfl) rfl ?_
    refine KV (R_cmp rfl rfl rfl) rfl ?_
    refine K_nil ?_
    refine Q_then ?_
    refine K_if rfl (fun h38 => ?_) (fun h38 => ?_)
    ·
      exact absurd h38 (by omega)
    ·
      refine K_skip ?_
      refine Q_then ?_
      refine K_seq ?_
      refine K_region ?_
      refine KV (R_assign rfl) rfl ?_
      refine K_nil ?_
      refine Q_then ?_
      refine K_ret ?_
      refine results_gen (rs := [.tmp 6]) (vs := [_]) rfl ⟨rfl, trivial⟩ ?_
      rw [hc, hk', List.drop_length]
      rfl

theorem rcmp_spec : ∀ m s t H cs ds, s.size ≤ m → t.size ≤ 1099511627776 → m ≤ 1099511627776 → RepT H s cs → RepT H t ds → Sat Tryz.prog F2184 #[.agg cs.toArray, .agg ds.toArray] H (fun v _ => v = .int .i64 (Tr.cmp s t)) := by
  intro m
  induction m with
  | zero => intro s _ H cs _ h; have := s.size_pos; omega
  | succ m ih =>
  intro s t H cs ds hm ht hb hr hq
  cases s with | node x ts =>
  cases t with | node y us =>
  have hr0 := hr
  have hq0 := hq
  obtain ⟨xa, xk, xc, rfl, xS, xL, xi⟩ := hr.inv
  obtain ⟨ya, yk, yc, rfl, yS, yL, yi⟩ := hq.inv
  have hsz : (Tr.node x ts).size = 1 + Tr.sizes ts := rfl
  have hsz2 : (Tr.node y us).size = 1 + Tr.sizes us := rfl
  have hln := Tr.length_le_sizes ts
  have hln2 := Tr.length_le_sizes us
  have hcs := fun i h => child_size (s := x) (ts := ts) (i := i) h
  have hcs2 := fun i h => child_size (s := y) (ts := us) (i := i) h
  refine enterO (n := 33) (args := [.agg #[.int .i64 x, .slice xa ts.length xk], .agg #[.int .i64 y, .slice ya us.length yk]]) Tryz.func68 rfl rfl rfl fun w0 => ?_
  refine K_seq ?_
  refine K_region ?_
  refine KA (A_box rfl) rfl fun b2 => ?_
  refine KA (A_box rfl) rfl fun b3 => ?_
  refine KV (R_assign rfl) rfl ?_
  refine K_nil ?_
  refine Q_then ?_
  refine K_seq ?_
  refine K_seq ?_
  refine K_regionD (fin := false) (R := [0, 2, 5, 6, 7, 8, 10, 11, 12, 13, 14, 15, 1, 3, 4, 9, 16, 17, 18, 19]) (by kernel_rfl) mixed (.cons_cons _ (.cons_cons _ (List.nil_sublist _))) ?_
  refine D_val rfl rfl rfl (R_loadW ty30 1 rfl rfl rfl rfl) ?_
  refine D_val rfl rfl rfl (R_loadW ty30 0 rfl rfl rfl rfl) ?_
  refine D_val rfl rfl rfl (R_fieldAddr 0 fd30_0 rfl) ?_
  refine D_val rfl rfl rfl (R_loadO ty3 1 rfl rfl rfl rfl (fun _ => rfl) rfl) ?_
  refine D_val rfl rfl rfl (R_fieldAddr 0 fd30_0 rfl) ?_
  refine D_val rfl rfl rfl (R_loadO ty3 0 rfl rfl rfl rfl (fun _ => rfl) rfl) ?_
  refine D_val rfl rfl rfl (R_fieldAddr 1 fd30_1 rfl) ?_
  refine D_val rfl rfl rfl (R_loadO ty28 1 rfl rfl rfl rfl (fun _ => rfl) rfl) ?_
  refine D_val rfl rfl rfl (R_len sl28 rfl) ?_
  refine D_val rfl rfl rfl (R_fieldAddr 1 fd30_1 rfl) ?_
  refine D_val rfl rfl rfl (R_loadO ty28 0 rfl rfl rfl rfl (fun _ => rfl) rfl) ?_
  refine D_val rfl rfl rfl (R_len sl28 rfl) ?_
  refine D_call rfl rfl c118 rfl ⟨⟨0, rfl⟩, ⟨1, rfl⟩, trivial⟩ (psize_spec (m + 1) (.node x ts) H _ hm hb hr0) ?_
  rintro _ V1 hv1 rfl
  refine D_call rfl rfl c118 rfl ⟨⟨0, rfl⟩, ⟨1, rfl⟩, trivial⟩ (psize_spec _ (.node y us) V1 _ (Nat.le_refl _) ht (hq0.mono hv1)) ?_
  rintro _ V2 hv2 rfl
  refine D_call rfl rfl c2071 rfl ⟨⟨0, rfl⟩, ⟨1, rfl⟩, trivial⟩ (ccmp_spec _ _ V2) ?_
  rintro _ V3 hv3 rfl
  refine D_call rfl rfl c2071 rfl ⟨⟨0, rfl⟩, ⟨1, rfl⟩, trivial⟩ (ccmp_spec x y V3) ?_
  rintro _ V4 hv4 rfl
  refine D_call rfl rfl c2071 rfl ⟨⟨0, rfl⟩, ⟨1, rfl⟩, trivial⟩ (ccmp_spec _ _ V4) ?_
  rintro _ V5 hv5 rfl
  refine D_alloc rfl rfl rfl (A_buildSlice (vs := [.int .i64 (if (((Tr.node x ts).size : Int) : Int) < ((Tr.node y us).size : Int) then -1 else if (((Tr.node y us).size : Int) : Int) < ((Tr.node x ts).size : Int) then 1 else 0), .int .i64 (if (x : Int) < y then -1 else if (y : Int) < x then 1 else 0), .int .i64 (if ((ts.length : Int) : Int) < (us.length : Int) then -1 else if ((us.length : Int) : Int) < (ts.length : Int) then 1 else 0)]) sl25 ty3 z3 rfl rfl (by simp [Value.cells]) (by simp) rfl (by decide)) fun b23 => ?_
  refine D_callO (first := []) [_] _ rfl rfl c2076 rfl rfl (List.Perm.refl _) ⟨⟨0, rfl⟩, ⟨1, rfl⟩, trivial⟩ (or_spec [(if (((Tr.node x ts).size : Int) : Int) < ((Tr.node y us).size : Int) then -1 else if (((Tr.node y us).size : Int) : Int) < ((Tr.node x ts).size : Int) then 1 else 0), (if (x : Int) < y then -1 else if (y : Int) < x then 1 else 0), (if ((ts.length : Int) : Int) < (us.length : Int) then -1 else if ((us.length : Int) : Int) < (ts.length : Int) then 1 else 0)] b23 V5 (by simp)) ?_
  rintro _ V6 q hv6 ⟨rfl, rfl⟩
  dsimp only [List.nil_append]
  refine D_val rfl rfl rfl (R_assign rfl) ?_
  refine D_done ?_
  refine Q_then ?_
  refine K_seq ?_
  refine K_region ?_
  refine KV (R_move rfl) rfl ?_
  refine KV (R_cmp rfl rfl rfl) rfl ?_
  refine K_nil ?_
  refine Q_then ?_
  refine K_if rfl (fun h26 => ?_) (fun h26 => ?_)
  ·
    refine K_seq ?_
    refine K_region ?_
    refine KV (R_move rfl) rfl ?_
    refine KV (R_assign rfl) rfl ?_
    refine K_nil ?_
    refine Q_then ?_
    refine K_ret ?_
    refine Q_then_ret ?_
    refine results_gen (rs := [.tmp 4]) (vs := [_]) rfl ⟨rfl, trivial⟩ ?_
    exact congrArg (Value.int .i64) ((cmp_or x y ts us).1 h26).symm
  ·
    have hle := (cmp_or x y ts us).2 h26
    refine K_skip ?_
    refine Q_then ?_
    refine K_seq ?_
    refine K_region ?_
    refine KV (R_fieldAddr 1 fd30_1 rfl) rfl ?_
    refine KV (R_loadO ty28 1 rfl rfl rfl rfl (fun _ => rfl) rfl) rfl ?_
    refine KV (R_fieldAddr 1 fd30_1 rfl) rfl ?_
    refine KV (R_loadO ty28 0 rfl rfl rfl rfl (fun _ => rfl) rfl) rfl ?_
    refine K_call c2200 rfl rfl (cmpf_spec F2184 c2184 ts us V6 _ _ _ _ xc yc hle.1 (by omega) (xS.mono (hv1.trans (hv2.trans (hv3.trans (hv4.trans (hv5.trans (hv6))))))) (xL.imp fun x cs h => h.mono (hv1.trans (hv2.trans (hv3.trans (hv4.trans (hv5.trans (hv6))))))) (yS.mono (hv1.trans (hv2.trans (hv3.trans (hv4.trans (hv5.trans (hv6))))))) (yL.imp fun x cs h => h.mono (hv1.trans (hv2.trans (hv3.trans (hv4.trans (hv5.trans (hv6))))))) (fun V i h1 h2 cs ds r1 r2 => ih _ _ V cs ds (by have := hcs i h1; omega) (by have := hcs2 i h2; omega) (by omega) r1 r2)) ?_
    rintro _ V7 hv7 rfl
    refine KV (R_assign rfl) rfl ?_
    refine K_nil ?_
    refine Q_then ?_
    refine K_ret ?_
    refine results_gen (rs := [.tmp 4]) (vs := [_]) rfl ⟨rfl, trivial⟩ ?_
    rw [hle.2]
    rfl

theorem reach36_spec (t : Tr) (H : View) (cs : List Value) (hb : t.size ≤ 1073741824) (hr : RepT H t cs) : Sat Tryz.prog F2185 #[.agg cs.toArray] H (fun r _ => r = .bool (decide (t.size ≤ 4096 ∧ t.deep ≤ 256))) := by
  obtain ⟨x0, x1, x2, x3, rfl⟩ := hr.shape
  refine enterO (n := 11) (args := [.agg #[.int .i64 x0, .slice x1 x2 x3]]) Tryz.func69 rfl rfl rfl fun w0 => ?_
  refine K_seq ?_
  refine K_region ?_
  refine KA (A_box rfl) rfl fun b1 => ?_
  refine KV (R_assign rfl) rfl ?_
  refine K_nil ?_
  refine Q_then ?_
  refine K_seq ?_
  refine K_region ?_
  refine KV (R_loadW ty30 0 rfl rfl rfl rfl) rfl ?_
  refine K_call c118 rfl rfl (psize_spec t.size t H _ (Nat.le_refl _) (by omega) hr) ?_
  rintro _ V1 hv1 rfl
  refine KV (R_cmp rfl rfl rfl) rfl ?_
  refine KV (R_move rfl) rfl ?_
  refine K_split ?_ ?_
  ·
    intro h6
    refine K_gyes rfl rfl ?_
    refine KV (R_loadW ty30 0 rfl rfl rfl rfl) rfl ?_
    refine K_gyes rfl rfl ?_
    refine K_call c119 rfl rfl (pdepth_spec t.size t V1 _ (Nat.le_refl _) (by omega) (hr.mono hv1)) ?_
    rintro _ V2 hv2 rfl
    refine K_gyes rfl rfl ?_
    refine KV (R_cmp rfl rfl rfl) rfl ?_
    refine KV (R_pickT rfl rfl) rfl ?_
    refine KV (R_assign rfl) rfl ?_
    refine K_nil ?_
    refine Q_then ?_
    refine K_ret ?_
    refine results_gen (rs := [.tmp 2]) (vs := [_]) rfl ⟨rfl, trivial⟩ ?_
    refine congrArg Value.bool ?_
    simp only [decide_eq_decide]
    omega
  ·
    intro h6
    refine K_gno rfl rfl rfl rfl ?_
    refine K_gno rfl rfl rfl rfl ?_
    refine K_gno rfl rfl rfl rfl ?_
    refine KV (R_pickF rfl rfl) rfl ?_
    refine KV (R_assign rfl) rfl ?_
    refine K_nil ?_
    refine Q_then ?_
    refine K_ret ?_
    refine results_gen (rs := [.tmp 2]) (vs := [_]) rfl ⟨rfl, trivial⟩ ?_
    refine congrArg Value.bool ?_
    simp; omega

theorem tclone_spec : ∀ m t H cs, t.size ≤ m → m ≤ 1099511627776 → RepT H t cs → Sat Tryz.prog F2186 #[.agg cs.toArray] H (fun v H' => ∃ ds, v = .agg ds.toArray ∧ RepT H' t ds) := by
  intro m
  induction m with
  | zero => intro t H cs h; have := t.size_pos; omega
  | succ m ih =>
  intro t H cs hm hb hr
  cases t with | node s ts =>
  obtain ⟨xa, xk, xc, rfl, xS, xL, hs⟩ := hr.inv
  have hsz : (Tr.node s ts).size = 1 + Tr.sizes ts := rfl
  have hln := Tr.length_le_sizes ts
  have hcs := fun i h => child_size (s := s) (ts := ts) (i := i) h
  refine enterO (n := 25) (args := [.agg #[.int .i64 s, .slice xa ts.length xk]]) Tryz.func70 rfl rfl rfl fun w0 => ?_
  refine K_seq ?_
  refine K_region ?_
  refine KA (A_box rfl) rfl fun b1 => ?_
  refine KA (A_alloc z30) rfl fun b2 => ?_
  refine K_nil ?_
  refine Q_then ?_
  refine K_seq ?_
  refine K_region ?_
  refine KV (R_fieldAddr 0 fd30_0 rfl) rfl ?_
  refine KV (R_loadO ty3 1 rfl rfl rfl rfl (fun _ => rfl) rfl) rfl ?_
  refine KV (R_build z30 pl30 rfl rfl) rfl ?_
  refine KA (A_alloc z30) rfl fun b3 => ?_
  refine K_storeW ty30 0 rfl rfl rfl rfl rfl rfl rfl ?_
  refine K_nil ?_
  refine Q_then ?_
  refine K_seq ?_
  refine K_seq ?_
  refine K_region ?_
  refine KV (R_fieldAddr 1 fd30_1 rfl) rfl ?_
  refine KV (R_loadO ty28 2 rfl rfl rfl rfl (fun _ => rfl) rfl) rfl ?_
  refine KV (R_len sl28 rfl) rfl ?_
  refine KV (R_move rfl) rfl ?_
  refine K_nil ?_
  refine Q_then ?_
  refine K_block ?_
  refine K_nilrow T30 2 ?_
  refine K_loopD (G := Nat × View × Value × List Value) [5, 12, 13, 14, 15, 16, 17, 18, 19, 20, 21, 22, 23] (fun g => [(12, .int .i64 (g.1 : Int))]) (fun hl g => ((hl.set 0 (row g.2.2.1 T30 2 g.1 g.2.2.2)).set 1 (blk b3 (.cells #[.int .i64 s, g.2.2.1] T30 (0, 0))))) (fun g => g.2.1) (fun g => (g.1 ≤ ts.length) ∧ (VLe H g.2.1) ∧ (RepL (RepT g.2.1) 2 (ts.take g.1) g.2.2.2) ∧ (∃ a c, g.2.2.1 = .slice a g.1 c)) (fun g => ts.length - g.1) (0, H, nilS, []) ⟨Nat.zero_le _, VLe.refl _, .nil, _, _, rfl⟩ ⟨rfl, trivial⟩ (by simp only [args0, Nat.reduceAdd, del, memN, beqN, Nat.reduceBEq, cond_true, cond_false]; rfl) rfl rfl ?_
  rintro ⟨k, V, w, oc⟩ ⟨hk0, hV, hL, hw⟩
  dsimp only at hk0 hV hL hw
  dsimp only [List.set, List.cons_append, List.nil_append]
  obtain ⟨wa, wc, rfl⟩ := hw
  refine K_seq ?_
  refine K_region ?_
  refine KV (R_cmp rfl rfl rfl) rfl ?_
  refine K_nil ?_
  refine Q_then ?_
  refine K_seq ?_
  refine K_if rfl (fun h13 => ?_) (fun h13 => ?_)
  ·
    have hk' : k < ts.length := by omega
    obtain ⟨xb, xo, xcs, xe, xcl, xR, xA⟩ := (SlAt.mono xS hV).elem (xL.imp fun x cs h => h.mono hV) (i := k) hk' rfl
    cases xe
    obtain ⟨x0, x1, x2, x3, rfl⟩ := xR.shape
    refine K_skip ?_
    refine Q_then ?_
    refine K_seq ?_
    refine K_block ?_
    refine K_seq ?_
    refine K_region ?_
    refine KV (R_indexN sl28 ty30 rfl rfl (by omega)) rfl ?_
    refine KV (R_loadH ty30 rfl (xA) rfl (fun e => by cases e) rfl) rfl ?_
    refine KA (A_alloc z30) rfl fun b5 => ?_
    refine K_storeW ty30 0 rfl rfl rfl rfl rfl rfl rfl ?_
    refine K_nil ?_
    refine Q_then ?_
    refine K_regionD (fin := true) (R := [0, 1, 2, 3, 4, 5, 6, 7]) (by kernel_rfl) mixed (.cons_cons _ (.cons _ (.cons_cons _ (.cons_cons _ (.cons_cons _ (List.nil_sublist _)))))) ?_
    refine D_val rfl rfl rfl (R_fieldAddr 1 fd30_1 rfl) ?_
    refine D_val rfl rfl rfl (R_loadO ty28 1 rfl rfl rfl rfl (fun _ => rfl) rfl) ?_
    refine D_val rfl rfl rfl (R_loadW ty30 0 rfl rfl rfl rfl) ?_
    refine D_call rfl rfl c2186 rfl ⟨⟨0, rfl⟩, ⟨2, rfl⟩, ⟨3, rfl⟩, ⟨4, rfl⟩, trivial⟩ (ih ts[k] V _ (by have := hcs k hk'; omega) (by omega) xR) ?_
    rintro _ V2 hv2 ⟨ds, rfl, yR⟩
    obtain ⟨y0, y1, y2, y3, rfl⟩ := yR.shape
    refine D_alloc rfl rfl rfl (A_buildSlice (vs := [.agg #[.int .i64 y0, .slice y1 y2 y3]]) sl28 ty30 z30 rfl rfl (by simp [Value.cells]) (by simp) rfl (by decide)) fun b20 => ?_
    refine D_append1 1 ap28 rfl rfl rfl rfl rfl rfl ⟨⟨0, rfl⟩, ⟨1, rfl⟩, ⟨2, rfl⟩, ⟨3, rfl⟩, trivial⟩ rfl rfl ⟨by omega, by omega⟩ fun a21 k21 hn21 => ?_
    refine D_val rfl rfl rfl (R_fieldAddr 1 fd30_1 rfl) ?_
    refine D_lastStore ty28 2 rfl rfl rfl rfl rfl rfl rfl rfl ?_
    refine Q_block ?_
    refine Q_then ?_
    refine K_region ?_
    refine KV (R_add rfl rfl (by omega)) rfl ?_
    refine KV (R_move rfl) rfl ?_
    refine K_nil ?_
    refine KQ_sel [0, 1, 1, 1] rfl ?_
    refine Q_nextD (k + 1, V2, .slice a21 (k + 1) k21, oc ++ [.int .i64 y0, .slice y1 y2 y3]) ⟨hk', hV.trans hv2, by rw [List.take_succ_eq_append_getElem hk']; exact (hL.imp fun x cs h => h.mono hv2).snoc yR rfl, _, _, rfl⟩ (by (try dsimp only); omega) ⟨rfl, trivial⟩ rfl rfl rfl
  ·
    have hk' : k = ts.length := by omega
    subst hk'
    rw [List.take_length] at hL
    refine K_exit ?_
    refine Q_then_exit ?_
    refine Q_then_exit ?_
    refine Q_block_exit ?_
    refine Q_then ?_
    refine K_seq ?_
    refine K_region ?_
    refine KV (R_loadW ty30 1 rfl rfl rfl rfl) rfl ?_
    refine K_storeW ty30 2 rfl rfl rfl rfl rfl rfl rfl ?_
    refine K_nil ?_
    refine Q_then ?_
    refine K_ret ?_
    refine KQ_pubrow rfl fun Hp hp hrow => ?_
    refine results_gen (rs := [.cell 2 57]) (vs := [_]) rfl ⟨⟨_, _, _, _, _, _, 1, rfl, rfl, ty30, (fun e => by cases e), rfl, rfl⟩, trivial⟩ ?_
    exact ⟨_, rfl, .of hs hrow.sl (hL.imp fun x cs h => h.mono hp)⟩

theorem steps_spec (a : Au) (v1 v2 v3 : Value) (H : View) (ha : RepAu H a v1 v2 v3) : Sat Tryz.prog F2168 #[.agg #[v1, .int .i64 a.states, v2, v3]] H (fun r H' => ∃ ad cp cells, r = .slice ad a.rules.length cp ∧ SlAt H' r a.rules.length cells ∧ RepL (RepR H') 3 a.rules cells) := by
  obtain ⟨ar, arc, rfl⟩ := ha.r.shape
  obtain ⟨af, afc, rfl⟩ := ha.f.shape
  obtain ⟨au, auc, rfl⟩ := ha.ushape
  have hul := ha.ul
  obtain ⟨uc, uS, uL⟩ := ha.u
  refine enterO (n := 25) (args := [.agg #[.slice ar a.ranks.length arc, .int .i64 a.states, .slice au a.rules.length auc, .slice af a.final.length afc]]) Tryz.func36 rfl rfl rfl fun w0 => ?_
  refine K_seq ?_
  refine K_region ?_
  refine KA (A_box rfl) rfl fun b1 => ?_
  refine KV (R_assign rfl) rfl ?_
  refine K_nil ?_
  refine Q_then ?_
  refine K_seq ?_
  refine K_region ?_
  refine KV (R_assign rfl) rfl ?_
  refine K_nil ?_
  refine Q_then ?_
  refine K_seq ?_
  refine K_seq ?_
  refine K_region ?_
  refine KV (R_fieldAddr 2 fd50_2 rfl) rfl ?_
  refine KV (R_loadO ty48 0 rfl rfl rfl rfl (fun _ => rfl) rfl) rfl ?_
  refine KV (R_len sl48 rfl) rfl ?_
  refine KV (R_move rfl) rfl ?_
  refine K_nil ?_
  refine Q_then ?_
  refine K_block ?_
  refine K_nilrow T2184 3 ?_
  refine K_loopD (G := Nat × Value × List Value) [3, 5, 9, 10, 11, 12, 13, 14, 15, 16, 17, 18, 19, 20, 21, 22, 23] (fun g => [(9, .int .i64 (g.1 : Int)), (3, g.2.1)]) (fun hl g => (hl.set 0 (row g.2.1 T2184 3 g.1 g.2.2))) (fun g => H) (fun g => (g.1 ≤ a.rules.length) ∧ (RepL (RepR H) 3 (a.rules.take g.1) g.2.2) ∧ (∃ a c, g.2.1 = .slice a g.1 c)) (fun g => a.rules.length - g.1) (0, nilS, []) ⟨Nat.zero_le _, .nil, _, _, rfl⟩ ⟨rfl, rfl, trivial⟩ (by simp only [args0, Nat.reduceAdd, del, memN, beqN, Nat.reduceBEq, cond_true, cond_false]; rfl) rfl rfl ?_
  rintro ⟨k, w, oc⟩ ⟨hk0, hL, hw⟩
  dsimp only at hk0 hL hw
  dsimp only [List.set, List.cons_append, List.nil_append]
  obtain ⟨wa, wc, rfl⟩ := hw
  refine K_seq ?_
  refine K_region ?_
  refine KV (R_cmp rfl rfl rfl) rfl ?_
  refine K_nil ?_
  refine Q_then ?_
  refine K_seq ?_
  refine K_if rfl (fun h10 => ?_) (fun h10 => ?_)
  ·
    have hk' : k < a.rules.length := by omega
    obtain ⟨xb, xo, xcs, xe, xcl, xR, xA⟩ := uS.elem uL (i := k) hk' rfl
    cases xe
    have xR0 := xR
    obtain ⟨ra, rc, rfl, _⟩ := xR0
    refine K_skip ?_
    refine Q_then ?_
    refine K_seq ?_
    refine K_block ?_
    refine K_seq ?_
    refine K_region ?_
    refine KV (R_indexN sl48 ty85 rfl rfl (by omega)) rfl ?_
    refine KV (R_loadH ty85 rfl (xA) rfl (fun e => by cases e) rfl) rfl ?_
    refine KA (A_alloc z85) rfl fun b5 => ?_
    refine K_storeW ty85 0 rfl rfl rfl rfl rfl rfl rfl ?_
    refine K_nil ?_
    refine Q_then ?_
    refine K_region ?_
    refine KV (R_move rfl) rfl ?_
    refine KV (R_fieldAddr 0 fd85_0 rfl) rfl ?_
    refine KV (R_loadO ty3 0 rfl rfl rfl rfl (fun _ => rfl) rfl) rfl ?_
    refine KV (R_fieldAddr 1 fd85_1 rfl) rfl ?_
    refine KV (R_loadO ty25 0 rfl rfl rfl rfl (fun _ => rfl) rfl) rfl ?_
    refine KV (R_fieldAddr 2 fd85_2 rfl) rfl ?_
    refine KV (R_loadO ty3 0 rfl rfl rfl rfl (fun _ => rfl) rfl) rfl ?_
    refine KV (R_build z2184 pl2184 rfl rfl) rfl ?_
    refine KA (A_buildSlice (vs := [.agg #[.int .i64 a.rules[k].sym, .slice ra a.rules[k].args.length rc, .int .i64 a.rules[k].to]]) sl2161 ty2184 z2184 rfl rfl (by simp [Value.cells]) (by simp) rfl (by decide)) rfl fun b21 => ?_
    refine K_append1 1 ap2161 rfl rfl rfl rfl rfl rfl ⟨by omega, by omega⟩ rfl fun a22 k22 hn22 => ?_
    refine KV (R_assign rfl) rfl ?_
    refine K_nil ?_
    refine Q_block ?_
    refine Q_then ?_
    refine K_region ?_
    refine KV (R_add rfl rfl (by omega)) rfl ?_
    refine KV (R_move rfl) rfl ?_
    refine K_nil ?_
    refine KQ_sel [0, 1] rfl ?_
    refine Q_nextD (k + 1, .slice a22 (k + 1) k22, oc ++ [.int .i64 a.rules[k].sym, .slice ra a.rules[k].args.length rc, .int .i64 a.rules[k].to]) ⟨hk', by rw [List.take_succ_eq_append_getElem hk']; exact hL.snoc xR rfl, _, _, rfl⟩ (by (try dsimp only); omega) ⟨rfl, rfl, trivial⟩ rfl rfl rfl
  ·
    have hk' : k = a.rules.length := by omega
    subst hk'
    rw [List.take_length] at hL
    refine K_exit ?_
    refine Q_then_exit ?_
    refine Q_then_exit ?_
    refine Q_block_exit ?_
    refine Q_then ?_
    refine K_seq ?_
    refine K_region ?_
    refine KV (R_move rfl) rfl ?_
    refine KV (R_assign rfl) rfl ?_
    refine K_nil ?_
    refine Q_then ?_
    refine K_ret ?_
    refine KQ_pubrow rfl fun Hp hp hrow => ?_
    refine results_gen (rs := [.tmp 2]) (vs := [_]) rfl ⟨rfl, trivial⟩ ?_
    exact ⟨_, _, oc, rfl, hrow.sl, hL.imp fun x cs h => h.mono hp⟩
end Go.Proofs.X

namespace Go.Proofs.X
open Go Pal Go.Proofs
attribute [local irreducible] Pal.KO Pal.KC Pal.KQ Pal.KD
theorem fd2184_0 : fldOk Tryz.prog T2184 0 0 = true := by kernel_rfl
theorem fd2184_1 : fldOk Tryz.prog T2184 1 1 = true := by kernel_rfl
theorem fd2184_2 : fldOk Tryz.prog T2184 2 2 = true := by kernel_rfl
theorem z0 : zeroOk Tryz.prog T0 (.tuple #[]) := .of (by kernel_rfl)
theorem z1 : zeroOk Tryz.prog T1 (.nilFunc) := .of (by kernel_rfl)
theorem z2 : zeroOk Tryz.prog T2 (.int .i64 0) := .of (by kernel_rfl)
theorem mt2159 : Tryz.prog.underlying T2159 = some (.map T3 T30) := by kernel_rfl
set_option maxHeartbeats 2000000 in
theorem leasts_spec (a : Au) (hok : AuOk a) (sa : Option Addr) (sc : Nat) (cells : List Value) (H : View) (sS : SlAt H (.slice sa a.rules.length sc) a.rules.length cells) (sL : RepL (RepR H) 3 a.rules cells) :
    Sat Tryz.prog F2167 #[.slice sa a.rules.length sc] H (fun r H' => ∃ mb kvs bt, r = mp mb ∧ H' mb = some (mapOb kvs) ∧ BestM H' kvs bt ∧ Best a.rules bt) := by
  have hul := hok.ul
  refine enterO (n := 73) (args := [.slice sa a.rules.length sc]) Tryz.func35 rfl rfl rfl fun w0 => ?_
  refine K_seq ?_
  refine K_region ?_
  refine KV (R_assign rfl) rfl ?_
  refine K_nil ?_
  refine Q_then ?_
  refine K_seq ?_
  refine K_region ?_
  refine KA (A_makeMap) rfl fun b14 => ?_
  refine KV (R_assign rfl) rfl ?_
  refine K_nil ?_
  refine Q_then ?_
  refine K_seq ?_
  refine K_seq ?_
  refine K_region ?_
  refine KV (R_assign rfl) rfl ?_
  refine K_nil ?_
  refine Q_then ?_
  refine K_block ?_
  refine K_loopD (G := Bool × View × KVs × BT) [4, 6, 7, 9, 10, 11, 12, 13, 15, 16, 17, 18, 19, 20, 21, 22, 23, 24, 25, 26, 27, 28, 29, 30, 31, 32, 33, 34, 35, 36, 37, 38, 39, 40, 41, 42, 43, 44, 45, 46, 47, 48, 49, 50, 51, 52, 53, 54, 55, 56, 57, 58, 59, 60, 61, 62, 63, 64, 65, 66, 67, 68, 69, 70, 71] (fun g => [(4, .bool g.1)]) (fun hl g => (hl.set 0 (blk b14 (mapOb g.2.2.1)))) (fun g => g.2.1) (fun g => (VLe H g.2.1) ∧ (BestM g.2.1 g.2.2.1 g.2.2.2) ∧ (InvB a.rules g.2.2.2) ∧ (∃ n, g.2.2.2 = chainB a.rules n) ∧ (g.1 = false → Best a.rules g.2.2.2)) (fun g => 2 * muA a g.2.2.2 + (if g.1 = true then 1 else 0)) (true, H, [], fun _ => none) ⟨VLe.refl _, BestM.zero _, InvB.zero _, ⟨0, rfl⟩, fun h => (by cases h)⟩ ⟨rfl, trivial⟩ (by simp only [args0, Nat.reduceAdd, del, memN, beqN, Nat.reduceBEq, cond_true, cond_false]; rfl) rfl rfl ?_
  rintro ⟨more, V, kvs, bt⟩ ⟨hV, hM, hI, hch, hcl⟩
  dsimp only at hV hM hI hch hcl
  dsimp only [List.set, List.cons_append, List.nil_append]
  refine K_seq ?_
  refine K_seq ?_
  refine K_region ?_
  refine KV (R_move rfl) rfl ?_
  refine K_nil ?_
  refine Q_then ?_
  refine K_ifB rfl (fun hmr => ?_) (fun hmr => ?_)
  ·
    refine K_skip ?_
    refine Q_then ?_
    refine K_block ?_
    refine K_scope ?_
    refine K_seq ?_
    refine K_region ?_
    refine KV (R_assign rfl) rfl ?_
    refine K_nil ?_
    refine Q_then ?_
    refine K_seq ?_
    refine K_label ?_
    refine Q_then ?_
    refine K_seq ?_
    refine K_region ?_
    refine KV (R_move rfl) rfl ?_
    refine KV (R_len sl2161 rfl) rfl ?_
    refine KV (R_move rfl) rfl ?_
    refine K_nil ?_
    refine Q_then ?_
    refine K_block ?_
    refine K_loopD (G := Nat × View × KVs) [4, 6, 7, 9, 10, 11, 12, 13, 18, 19, 20, 21, 22, 23, 24, 25, 26, 27, 28, 29, 30, 31, 32, 33, 34, 35, 36, 37, 38, 39, 40, 41, 42, 43, 44, 45, 46, 47, 48, 49, 50, 51, 52, 53, 54, 55, 56, 57, 58, 59, 60, 61, 62, 63, 64, 65, 66, 67, 68, 69, 70, 71] (fun g => [(18, .int .i64 (g.1 : Int)), (4, .bool (passP (a.rules.take g.1) bt).2)]) (fun hl g => (hl.set 0 (blk b14 (mapOb g.2.2)))) (fun g => g.2.1) (fun g => (g.1 ≤ a.rules.length) ∧ (VLe V g.2.1) ∧ (BestM g.2.1 g.2.2 (passP (a.rules.take g.1) bt).1)) (fun g => a.rules.length - g.1) (0, V, kvs) ⟨Nat.zero_le _, VLe.refl _, hM⟩ ⟨rfl, rfl, trivial⟩ (by simp only [args0, Nat.reduceAdd, del, memN, beqN, Nat.reduceBEq, cond_true, cond_false]; rfl) rfl rfl ?_
    rintro ⟨k, V2, kv2⟩ ⟨hk0, hV2, hM2⟩
    dsimp only at hk0 hV2 hM2
    dsimp only [List.set, List.cons_append, List.nil_append]
    refine K_seq ?_
    refine K_region ?_
    refine KV (R_cmp rfl rfl rfl) rfl ?_
    refine K_nil ?_
    refine Q_then ?_
    refine K_seq ?_
    refine K_if rfl (fun h19 => ?_) (fun h19 => ?_)
    ·
      have hk' : k < a.rules.length := by omega
      obtain ⟨xb, xo, xcs, xe, xcl, xR, xA⟩ := (SlAt.mono sS (hV.trans hV2)).elem (sL.imp fun x cs h => h.mono (hV.trans hV2)) (i := k) hk' rfl
      cases xe
      obtain ⟨ra, rc, rfl, rS, rs1, rs2, rl⟩ := xR
      have hr2 := rank_two hok (List.getElem_mem hk')
      have hI2 := passP_inv hI k
      refine K_skip ?_
      refine Q_then ?_
      refine K_seq ?_
      refine K_block ?_
      refine K_seq ?_
      refine K_region ?_
      refine KV (R_indexN sl2161 ty2184 rfl rfl (by omega)) rfl ?_
      refine KV (R_loadH ty2184 rfl (xA) rfl (fun e => by cases e) rfl) rfl ?_
      refine KA (A_alloc z2184) rfl fun b6 => ?_
      refine K_storeW ty2184 0 rfl rfl rfl rfl rfl rfl rfl ?_
      refine K_nil ?_
      refine Q_then ?_
      refine K_seq ?_
      refine K_region ?_
      refine KV (R_fieldAddr 0 fd2184_0 rfl) rfl ?_
      refine KV (R_loadO ty3 0 rfl rfl rfl rfl (fun _ => rfl) rfl) rfl ?_
      refine KV (R_build z30 pl30 rfl rfl) rfl ?_
      refine KA (A_alloc z30) rfl fun b7 => ?_
      refine K_storeW ty30 0 rfl rfl rfl rfl rfl rfl rfl ?_
      refine K_nil ?_
      refine Q_then ?_
      refine K_seq ?_
      refine K_seq ?_
      refine K_region ?_
      refine KV (R_fieldAddr 1 fd2184_1 rfl) rfl ?_
      refine KV (R_loadO ty25 1 rfl rfl rfl rfl (fun _ => rfl) rfl) rfl ?_
      refine KV (R_len sl25 rfl) rfl ?_
      refine KV (R_move rfl) rfl ?_
      refine K_nil ?_
      refine Q_then ?_
      refine K_block ?_
      refine K_nilrow T30 2 ?_
      refine K_loopD (G := Nat × Value × List Value × List Tr) [9, 10, 11, 28, 29, 30, 31, 32, 33, 34, 35, 36, 37, 38, 39, 40, 41, 42, 43, 44, 45, 46] (fun g => [(28, .int .i64 (g.1 : Int))]) (fun hl g => ((hl.set 0 (row g.2.1 T30 2 g.1 g.2.2.1)).set 1 (blk b7 (.cells #[.int .i64 a.rules[k].sym, g.2.1] T30 (0, 0))))) (fun g => V2) (fun g => (g.1 ≤ a.rules[k].args.length) ∧ (argsB (passP (a.rules.take k) bt).1 (a.rules[k].args.take g.1) = some g.2.2.2) ∧ (RepL (RepT V2) 2 g.2.2.2 g.2.2.1) ∧ (∃ ad cp, g.2.1 = .slice ad g.1 cp)) (fun g => a.rules[k].args.length - g.1) (0, nilS, [], []) ⟨Nat.zero_le _, rfl, .nil, _, _, rfl⟩ ⟨rfl, trivial⟩ (by simp only [args0, Nat.reduceAdd, del, memN, beqN, Nat.reduceBEq, cond_true, cond_false]; rfl) rfl rfl ?_
      rintro ⟨i, w, oc, ts⟩ ⟨hi0, hts, hL, hw⟩
      dsimp only at hi0 hts hL hw
      dsimp only [List.set, List.cons_append, List.nil_append]
      obtain ⟨wa, wc, rfl⟩ := hw
      refine K_seq ?_
      refine K_region ?_
      refine KV (R_cmp rfl rfl rfl) rfl ?_
      refine K_nil ?_
      refine Q_then ?_
      refine K_seq ?_
      refine K_if rfl (fun h29 => ?_) (fun h29 => ?_)
      ·
        have hi' : i < a.rules[k].args.length := by omega
        obtain ⟨qb, qo, qe, qA⟩ := rS.get hi'
        cases qe
        refine K_skip ?_
        refine Q_then ?_
        refine K_seq ?_
        refine K_block ?_
        refine K_seq ?_
        refine K_region ?_
        refine KV (R_indexN sl25 ty3 rfl rfl (by omega)) rfl ?_
        refine KV (R_loadH ty3 rfl (qA) rfl (fun _ => rfl) rfl) rfl ?_
        refine KV (R_assign rfl) rfl ?_
        refine K_nil ?_
        refine Q_then ?_
        refine K_seq ?_
        rcases hbq : (passP (a.rules.take k) bt).1 a.rules[k].args[i] with _ | u
        ·
          refine K_region ?_
          refine KV (R_move rfl) rfl ?_
          refine KV (R_move rfl) rfl ?_
          refine KV (R_lookT mt2159 (by kernel_rfl) z30 rfl rfl (MapAt.at 3 rfl) (v := .tuple #[.agg #[.int .i64 0, .slice none 0 0], .bool false]) (by rw [BestM.no hM2 hbq]; rfl)) rfl ?_
          refine KV (R_move rfl) rfl ?_
          refine KV (R_extract rfl rfl) rfl ?_
          refine KV (R_extract rfl rfl) rfl ?_
          refine KA (A_alloc z30) rfl fun b10 => ?_
          refine K_storeW ty30 0 rfl rfl rfl rfl rfl rfl rfl ?_
          refine KV (R_assign rfl) rfl ?_
          refine K_nil ?_
          refine Q_then ?_
          refine K_seq ?_
          refine K_seq ?_
          refine K_region ?_
          refine KV (R_move rfl) rfl ?_
          refine KV (R_not rfl) rfl ?_
          refine K_nil ?_
          refine Q_then ?_
          refine K_ifB rfl (fun h39 => ?_) (fun h39 => ?_)
          ·
            refine K_exit ?_
            refine Q_then_exit ?_
            refine Q_block_other rfl ?_
            refine Q_then_exit ?_
            refine Q_then_exit ?_
            refine Q_block_other rfl ?_
            refine Q_then_exit ?_
            refine Q_block_exit ?_
            refine Q_then ?_
            refine K_region ?_
            refine KV (R_add rfl rfl (by omega)) rfl ?_
            refine KV (R_move rfl) rfl ?_
            refine K_nil ?_
            refine KQ_sel [4] rfl ?_
            have hn : newB (passP (a.rules.take k) bt).1 a.rules[k] = none := newB_none (argsB_none hi' hbq)
            refine Q_nextD (k + 1, V2, kv2) ⟨hk', hV2, by rw [passP_succ hk', stepP_is, show stepB (passP (a.rules.take k) bt).1 a.rules[k] = (passP (a.rules.take k) bt).1 by unfold stepB; rw [hn]]; exact hM2⟩ (by (try dsimp only); omega) ⟨rfl, congrArg (fun z => some (Value.bool z)) (by rw [passP_succ hk', stepP_is, hn]; simp), trivial⟩ rfl rfl rfl
          ·
            cases h39
        ·
          obtain ⟨y0, y1, y2, y3, yK, yR⟩ := hM2.yes hbq
          refine K_region ?_
          refine KV (R_move rfl) rfl ?_
          refine KV (R_move rfl) rfl ?_
          refine KV (R_lookT mt2159 (by kernel_rfl) z30 rfl rfl (MapAt.at 3 rfl) (v := .tuple #[.agg #[.int .i64 y0, .slice y1 y2 y3], .bool true]) (by rw [yK]; rfl)) rfl ?_
          refine KV (R_move rfl) rfl ?_
          refine KV (R_extract rfl rfl) rfl ?_
          refine KV (R_extract rfl rfl) rfl ?_
          refine KA (A_alloc z30) rfl fun b10 => ?_
          refine K_storeW ty30 0 rfl rfl rfl rfl rfl rfl rfl ?_
          refine KV (R_assign rfl) rfl ?_
          refine K_nil ?_
          refine Q_then ?_
          refine K_seq ?_
          refine K_seq ?_
          refine K_region ?_
          refine KV (R_move rfl) rfl ?_
          refine KV (R_not rfl) rfl ?_
          refine K_nil ?_
          refine Q_then ?_
          refine K_ifB rfl (fun h39 => ?_) (fun h39 => ?_)
          ·
            cases h39
          ·
            refine K_skip ?_
            refine Q_then ?_
            refine K_region ?_
            refine KV (R_fieldAddr 1 fd30_1 rfl) rfl ?_
            refine KV (R_loadO ty28 2 rfl rfl rfl rfl (fun _ => rfl) rfl) rfl ?_
            refine KV (R_loadW ty30 0 rfl rfl rfl rfl) rfl ?_
            refine KA (A_buildSlice (vs := [.agg #[.int .i64 y0, .slice y1 y2 y3]]) sl28 ty30 z30 rfl rfl (by simp [Value.cells]) (by simp) rfl (by decide)) rfl fun b43 => ?_
            refine K_append1 1 ap28 rfl rfl rfl rfl rfl rfl ⟨by omega, by omega⟩ rfl fun a44 k44 hn44 => ?_
            refine KV (R_fieldAddr 1 fd30_1 rfl) rfl ?_
            refine K_store ty28 2 rfl rfl rfl rfl rfl rfl ?_
            refine K_nil ?_
            refine Q_block ?_
            refine Q_then ?_
            refine K_region ?_
            refine KV (R_add rfl rfl (by omega)) rfl ?_
            refine KV (R_move rfl) rfl ?_
            refine K_nil ?_
            refine KQ_sel [0, 1, 1, 1] rfl ?_
            refine Q_nextD (i + 1, .slice a44 (i + 1) k44, oc ++ [.int .i64 y0, .slice y1 y2 y3], ts ++ [u]) ⟨hi', argsB_snoc hts hi' hbq, hL.snoc yR rfl, _, _, rfl⟩ (by (try dsimp only); omega) ⟨rfl, trivial⟩ rfl rfl rfl
      ·
        have hi' : i = a.rules[k].args.length := by omega
        subst hi'
        rw [List.take_length] at hts
        refine K_exit ?_
        refine Q_then_exit ?_
        refine Q_then_exit ?_
        refine Q_block_exit ?_
        refine Q_then ?_
        refine K_seq ?_
        rcases hbt : (passP (a.rules.take k) bt).1 a.rules[k].to with _ | v
        ·
          have hnb := newB_is hts
          rw [hbt] at hnb
          refine K_region ?_
          refine KV (R_move rfl) rfl ?_
          refine KV (R_fieldAddr 2 fd2184_2 rfl) rfl ?_
          refine KV (R_loadO ty3 2 rfl rfl rfl rfl (fun _ => rfl) rfl) rfl ?_
          refine KV (R_lookT mt2159 (by kernel_rfl) z30 rfl rfl (MapAt.at 3 rfl) (v := .tuple #[.agg #[.int .i64 0, .slice none 0 0], .bool false]) (by rw [BestM.no hM2 hbt]; rfl)) rfl ?_
          refine KV (R_move rfl) rfl ?_
          refine KV (R_extract rfl rfl) rfl ?_
          refine KV (R_extract rfl rfl) rfl ?_
          refine KA (A_alloc z30) rfl fun b12 => ?_
          refine K_storeW ty30 0 rfl rfl rfl rfl rfl rfl rfl ?_
          refine KV (R_assign rfl) rfl ?_
          refine K_nil ?_
          refine Q_then ?_
          refine K_seq ?_
          refine KC_front 1 rfl ?_
          try dsimp only [List.eraseIdx]
          refine KC_pubrow rfl fun V8 hv8 hrow => ?_
          skip
          have hT8 : RepT V8 (.node a.rules[k].sym ts) [.int .i64 a.rules[k].sym, .slice wa a.rules[k].args.length wc] := .of rs1 (by rw [show ts.length = a.rules[k].args.length from (argsB_some.1 hts).1]; exact hrow.sl) (hL.imp fun x cs h => h.mono hv8)
          have hss := args_sizes hI2 hts
          have htl := (argsB_some.1 hts).1
          have hsz : (Tr.node a.rules[k].sym ts).size = 1 + Tr.sizes ts := rfl
          refine K_region ?_
          refine KV (R_loadW ty30 1 rfl rfl rfl rfl) rfl ?_
          refine K_call c118 rfl rfl (psize_spec _ _ V8 _ (Nat.le_refl _) (by omega) hT8) ?_
          rintro _ V9 hv9 rfl
          have hT9 := hT8.mono hv9
          refine KV (R_cmp rfl rfl rfl) rfl ?_
          refine KV (R_move rfl) rfl ?_
          refine K_split ?_ ?_
          ·
            intro h57
            refine K_gyes rfl rfl ?_
            refine KV (R_move rfl) rfl ?_
            refine K_gyes rfl rfl ?_
            refine KV (R_not rfl) rfl ?_
            refine K_gyes rfl rfl ?_
            refine KV (R_move rfl) rfl ?_
            refine K_splitB ?_ ?_
            ·
              intro h60
              refine K_gno rfl rfl rfl rfl ?_
              refine K_gno rfl rfl rfl rfl ?_
              refine K_gno rfl rfl rfl rfl ?_
              refine K_gno rfl rfl rfl rfl ?_
              refine K_gyes rfl rfl ?_
              refine KV (R_pickT rfl rfl) rfl ?_
              refine KV (R_pickT rfl rfl) rfl ?_
              refine K_nil ?_
              refine Q_then ?_
              refine K_ifT rfl ?_
              refine K_seq ?_
              refine K_region ?_
              refine KV (R_move rfl) rfl ?_
              refine KV (R_fieldAddr 2 fd2184_2 rfl) rfl ?_
              refine KV (R_loadO ty3 2 rfl rfl rfl rfl (fun _ => rfl) rfl) rfl ?_
              refine KV (R_loadW ty30 1 rfl rfl rfl rfl) rfl ?_
              refine K_mapSet mt2159 (by kernel_rfl) 3 rfl rfl rfl rfl ?_
              refine K_nil ?_
              refine Q_then ?_
              refine K_region ?_
              refine KV (R_assign rfl) rfl ?_
              refine K_nil ?_
              refine Q_block ?_
              refine Q_then ?_
              refine K_region ?_
              refine KV (R_add rfl rfl (by omega)) rfl ?_
              refine KV (R_move rfl) rfl ?_
              refine K_nil ?_
              refine KQ_sel [3] rfl ?_
              have hn : newB (passP (a.rules.take k) bt).1 a.rules[k] = some (.node a.rules[k].sym ts) := by rw [hnb, if_pos ⟨by omega, rfl⟩]
              refine Q_nextD (k + 1, V9, setI kv2 a.rules[k].to (.agg #[.int .i64 a.rules[k].sym, .slice wa a.rules[k].args.length wc])) ⟨hk', hV2.trans (hv8.trans hv9), by rw [passP_succ hk', stepP_is, show stepB (passP (a.rules.take k) bt).1 a.rules[k] = updB (passP (a.rules.take k) bt).1 a.rules[k].to (.node a.rules[k].sym ts) by unfold stepB; rw [hn]]; exact (hM2.mono (hv8.trans hv9)).set (cs := [.int .i64 a.rules[k].sym, .slice wa a.rules[k].args.length wc]) (hT8.mono hv9)⟩ (by (try dsimp only); omega) ⟨rfl, congrArg (fun z => some (Value.bool z)) (by rw [passP_succ hk', stepP_is, hn]; simp), trivial⟩ rfl rfl rfl
            ·
              intro h60
              cases h60
          ·
            intro h57
            refine K_gno rfl rfl rfl rfl ?_
            refine K_gno rfl rfl rfl rfl ?_
            refine K_gno rfl rfl rfl rfl ?_
            refine K_gun rfl rfl rfl ?_
            refine K_gun rfl rfl rfl ?_
            refine K_gun rfl rfl rfl ?_
            refine K_gun rfl rfl rfl ?_
            refine K_gno rfl rfl rfl rfl ?_
            refine KV (R_pickF rfl rfl) rfl ?_
            refine K_nil ?_
            refine Q_then ?_
            refine K_ifF rfl ?_
            refine K_skip ?_
            refine Q_block ?_
            refine Q_then ?_
            refine K_region ?_
            refine KV (R_add rfl rfl (by omega)) rfl ?_
            refine KV (R_move rfl) rfl ?_
            refine K_nil ?_
            refine KQ_sel [3] rfl ?_
            have hn : newB (passP (a.rules.take k) bt).1 a.rules[k] = none := by rw [hnb, if_neg (fun h => by have := h.1; omega)]
            refine Q_nextD (k + 1, V9, kv2) ⟨hk', hV2.trans (hv8.trans hv9), by rw [passP_succ hk', stepP_is, show stepB (passP (a.rules.take k) bt).1 a.rules[k] = (passP (a.rules.take k) bt).1 by unfold stepB; rw [hn]]; exact (hM2.mono (hv8.trans hv9))⟩ (by (try dsimp only); omega) ⟨rfl, congrArg (fun z => some (Value.bool z)) (by rw [passP_succ hk', stepP_is, hn]; simp), trivial⟩ rfl rfl rfl
        ·
          have hnb := newB_is hts
          rw [hbt] at hnb
          obtain ⟨z0, z1, z2, z3, zK, zR⟩ := hM2.yes hbt
          have hvs := (hI2 _ _ hbt).2
          refine K_region ?_
          refine KV (R_move rfl) rfl ?_
          refine KV (R_fieldAddr 2 fd2184_2 rfl) rfl ?_
          refine KV (R_loadO ty3 2 rfl rfl rfl rfl (fun _ => rfl) rfl) rfl ?_
          refine KV (R_lookT mt2159 (by kernel_rfl) z30 rfl rfl (MapAt.at 3 rfl) (v := .tuple #[.agg #[.int .i64 z0, .slice z1 z2 z3], .bool true]) (by rw [zK]; rfl)) rfl ?_
          refine KV (R_move rfl) rfl ?_
          refine KV (R_extract rfl rfl) rfl ?_
          refine KV (R_extract rfl rfl) rfl ?_
          refine KA (A_alloc z30) rfl fun b12 => ?_
          refine K_storeW ty30 0 rfl rfl rfl rfl rfl rfl rfl ?_
          refine KV (R_assign rfl) rfl ?_
          refine K_nil ?_
          refine Q_then ?_
          refine K_seq ?_
          refine KC_front 1 rfl ?_
          try dsimp only [List.eraseIdx]
          refine KC_pubrow rfl fun V8 hv8 hrow => ?_
          skip
          have hT8 : RepT V8 (.node a.rules[k].sym ts) [.int .i64 a.rules[k].sym, .slice wa a.rules[k].args.length wc] := .of rs1 (by rw [show ts.length = a.rules[k].args.length from (argsB_some.1 hts).1]; exact hrow.sl) (hL.imp fun x cs h => h.mono hv8)
          have hss := args_sizes hI2 hts
          have htl := (argsB_some.1 hts).1
          have hsz : (Tr.node a.rules[k].sym ts).size = 1 + Tr.sizes ts := rfl
          refine K_region ?_
          refine KV (R_loadW ty30 1 rfl rfl rfl rfl) rfl ?_
          refine K_call c118 rfl rfl (psize_spec _ _ V8 _ (Nat.le_refl _) (by omega) hT8) ?_
          rintro _ V9 hv9 rfl
          have hT9 := hT8.mono hv9
          refine KV (R_cmp rfl rfl rfl) rfl ?_
          refine KV (R_move rfl) rfl ?_
          refine K_split ?_ ?_
          ·
            intro h57
            refine K_gyes rfl rfl ?_
            refine KV (R_move rfl) rfl ?_
            refine K_gyes rfl rfl ?_
            refine KV (R_not rfl) rfl ?_
            refine K_gyes rfl rfl ?_
            refine KV (R_move rfl) rfl ?_
            refine K_splitB ?_ ?_
            ·
              intro h60
              cases h60
            ·
              intro h60
              refine K_gyes rfl rfl ?_
              refine KV (R_loadW ty30 1 rfl rfl rfl rfl) rfl ?_
              refine K_gyes rfl rfl ?_
              refine KV (R_loadW ty30 0 rfl rfl rfl rfl) rfl ?_
              refine K_gyes rfl rfl ?_
              refine K_call c2184 rfl rfl (rcmp_spec _ _ v V9 _ _ (Nat.le_refl _) (by omega) (by omega) hT9 ((zR.mono hv8).mono hv9)) ?_
              rintro _ V10 hv10 rfl
              refine K_gyes rfl rfl ?_
              refine KV (R_cmp rfl rfl rfl) rfl ?_
              refine K_gyes rfl rfl ?_
              refine KV (R_pickF rfl rfl) rfl ?_
              refine KV (R_pickT rfl rfl) rfl ?_
              refine K_nil ?_
              refine Q_then ?_
              refine K_if rfl (fun h66 => ?_) (fun h66 => ?_)
              ·
                refine K_seq ?_
                refine K_region ?_
                refine KV (R_move rfl) rfl ?_
                refine KV (R_fieldAddr 2 fd2184_2 rfl) rfl ?_
                refine KV (R_loadO ty3 2 rfl rfl rfl rfl (fun _ => rfl) rfl) rfl ?_
                refine KV (R_loadW ty30 1 rfl rfl rfl rfl) rfl ?_
                refine K_mapSet mt2159 (by kernel_rfl) 3 rfl rfl rfl rfl ?_
                refine K_nil ?_
                refine Q_then ?_
                refine K_region ?_
                refine KV (R_assign rfl) rfl ?_
                refine K_nil ?_
                refine Q_block ?_
                refine Q_then ?_
                refine K_region ?_
                refine KV (R_add rfl rfl (by omega)) rfl ?_
                refine KV (R_move rfl) rfl ?_
                refine K_nil ?_
                refine KQ_sel [3] rfl ?_
                have hn : newB (passP (a.rules.take k) bt).1 a.rules[k] = some (.node a.rules[k].sym ts) := by rw [hnb, if_pos ⟨by omega, decide_eq_true h66⟩]
                refine Q_nextD (k + 1, V10, setI kv2 a.rules[k].to (.agg #[.int .i64 a.rules[k].sym, .slice wa a.rules[k].args.length wc])) ⟨hk', hV2.trans (hv8.trans (hv9.trans hv10)), by rw [passP_succ hk', stepP_is, show stepB (passP (a.rules.take k) bt).1 a.rules[k] = updB (passP (a.rules.take k) bt).1 a.rules[k].to (.node a.rules[k].sym ts) by unfold stepB; rw [hn]]; exact (hM2.mono (hv8.trans (hv9.trans hv10))).set (cs := [.int .i64 a.rules[k].sym, .slice wa a.rules[k].args.length wc]) (hT8.mono (hv9.trans hv10))⟩ (by (try dsimp only); omega) ⟨rfl, congrArg (fun z => some (Value.bool z)) (by rw [passP_succ hk', stepP_is, hn]; simp), trivial⟩ rfl rfl rfl
              ·
                refine K_skip ?_
                refine Q_block ?_
                refine Q_then ?_
                refine K_region ?_
                refine KV (R_add rfl rfl (by omega)) rfl ?_
                refine KV (R_move rfl) rfl ?_
                refine K_nil ?_
                refine KQ_sel [3] rfl ?_
                have hn : newB (passP (a.rules.take k) bt).1 a.rules[k] = none := by rw [hnb, if_neg (fun h => h66 (of_decide_eq_true h.2))]
                refine Q_nextD (k + 1, V10, kv2) ⟨hk', hV2.trans (hv8.trans (hv9.trans hv10)), by rw [passP_succ hk', stepP_is, show stepB (passP (a.rules.take k) bt).1 a.rules[k] = (passP (a.rules.take k) bt).1 by unfold stepB; rw [hn]]; exact (hM2.mono (hv8.trans (hv9.trans hv10)))⟩ (by (try dsimp only); omega) ⟨rfl, congrArg (fun z => some (Value.bool z)) (by rw [passP_succ hk', stepP_is, hn]; simp), trivial⟩ rfl rfl rfl
          ·
            intro h57
            refine K_gno rfl rfl rfl rfl ?_
            refine K_gno rfl rfl rfl rfl ?_
            refine K_gno rfl rfl rfl rfl ?_
            refine K_gun rfl rfl rfl ?_
            refine K_gun rfl rfl rfl ?_
            refine K_gun rfl rfl rfl ?_
            refine K_gun rfl rfl rfl ?_
            refine K_gno rfl rfl rfl rfl ?_
            refine KV (R_pickF rfl rfl) rfl ?_
            refine K_nil ?_
            refine Q_then ?_
            refine K_ifF rfl ?_
            refine K_skip ?_
            refine Q_block ?_
            refine Q_then ?_
            refine K_region ?_
            refine KV (R_add rfl rfl (by omega)) rfl ?_
            refine KV (R_move rfl) rfl ?_
            refine K_nil ?_
            refine KQ_sel [3] rfl ?_
            have hn : newB (passP (a.rules.take k) bt).1 a.rules[k] = none := by rw [hnb, if_neg (fun h => by have := h.1; omega)]
            refine Q_nextD (k + 1, V9, kv2) ⟨hk', hV2.trans (hv8.trans hv9), by rw [passP_succ hk', stepP_is, show stepB (passP (a.rules.take k) bt).1 a.rules[k] = (passP (a.rules.take k) bt).1 by unfold stepB; rw [hn]]; exact (hM2.mono (hv8.trans hv9))⟩ (by (try dsimp only); omega) ⟨rfl, congrArg (fun z => some (Value.bool z)) (by rw [passP_succ hk', stepP_is, hn]; simp), trivial⟩ rfl rfl rfl
    ·
      have hk' : k = a.rules.length := by omega
      subst hk'
      rw [List.take_length] at hM2 ⊢
      refine K_exit ?_
      refine Q_then_exit ?_
      refine Q_then_exit ?_
      refine Q_block_exit ?_
      refine Q_scope ?_
      refine Q_block ?_
      have hI2 : InvB a.rules (passP a.rules bt).1 := by rw [passP_fst]; exact hI.steps fun _ h => h
      have hch2 : ∃ n, (passP a.rules bt).1 = chainB a.rules n := by
        obtain ⟨n, hn⟩ := hch
        exact ⟨n + 1, by rw [passP_fst, hn]; rfl⟩
      have hcl2 : (passP a.rules bt).2 = false → Best a.rules (passP a.rules bt).1 := fun hf => by
        have hB := Best.of hch hf
        rw [passP_fst, hB.fx]; exact hB
      refine Q_nextD ((passP a.rules bt).2, V2, kv2, (passP a.rules bt).1) ⟨hV.trans hV2, hM2, hI2, hch2, hcl2⟩ (by have hmu := mu_pass hok hI _ (Nat.le_refl _); rw [List.take_length] at hmu; subst hmr; dsimp only; cases hfl : (passP a.rules bt).2 <;> simp only [hfl, if_true, if_false, Bool.false_eq_true] at hmu ⊢ <;> omega) ⟨rfl, trivial⟩ rfl rfl rfl
  ·
    refine K_exit ?_
    refine Q_then_exit ?_
    refine Q_then_exit ?_
    refine Q_block_exit ?_
    refine Q_then ?_
    refine K_seq ?_
    refine K_region ?_
    refine KV (R_move rfl) rfl ?_
    refine KV (R_assign rfl) rfl ?_
    refine K_nil ?_
    refine Q_then ?_
    refine K_ret ?_
    refine KQ_pubF fun U hU hb14 => ?_
    refine results_sel [] rfl (rs := [.tmp 2]) (vs := [_]) rfl ⟨rfl, trivial⟩ ?_
    exact ⟨b14, kvs, bt, rfl, hb14, hM.mono hU, hcl hmr⟩
end Go.Proofs.X

namespace Go.Proofs.X
open Go Pal Go.Proofs
attribute [local irreducible] Pal.KO Pal.KC Pal.KQ Pal.KD
theorem c2041 : callable Tryz.prog F2041 = true := by kernel_rfl
theorem c2166 : callable Tryz.prog F2166 = true := by kernel_rfl
theorem c2167 : callable Tryz.prog F2167 = true := by kernel_rfl
theorem c2168 : callable Tryz.prog F2168 = true := by kernel_rfl
theorem c2169 : callable Tryz.prog F2169 = true := by kernel_rfl
theorem c2185 : callable Tryz.prog F2185 = true := by kernel_rfl
set_option maxHeartbeats 1000000 in
theorem least_spec (gf : Nat) (cap : List Value) (F : Int → Bool) (hcal : callable Tryz.prog gf = true) (H : View) (mb : Nat) (kvs : KVs) (bt : BT) (hm : H mb = some (mapOb kvs)) (hM : BestM H kvs bt) (hb : ∀ q t, bt q = some t → t.size ≤ 4096 ∧ t.deep ≤ 256)
    (hf : ∀ q V, VLe H V → Sat Tryz.prog gf ([] ++ [Value.int .i64 q] ++ cap).toArray V (fun r _ => r = .bool (F q))) :
    Sat Tryz.prog F2166 #[mp mb, .func (.func gf) #[] cap.toArray] H (fun r H' => ∃ ds o, r = .tuple #[.agg ds.toArray, .bool (Option.isSome o)] ∧ RepT H' (o.getD (.node 0 [])) ds ∧ LeastOf bt (fun p => F p = true) o) := by
  refine enterO (n := 41) (args := [mp mb, .func (.func gf) #[] cap.toArray]) Tryz.func34 rfl rfl rfl fun w0 => ?_
  refine K_seq ?_
  refine K_region ?_
  refine KA (A_alloc z30) rfl fun b4 => ?_
  refine KV (R_assign rfl) rfl ?_
  refine K_nil ?_
  refine Q_then ?_
  refine K_seq ?_
  refine K_region ?_
  refine KA (A_alloc z30) rfl fun b6 => ?_
  refine K_nil ?_
  refine Q_then ?_
  refine K_seq ?_
  refine K_region ?_
  refine KV (R_assign rfl) rfl ?_
  refine K_nil ?_
  refine Q_then ?_
  refine K_seq ?_
  refine K_seq ?_
  refine K_region ?_
  refine KV (R_move rfl) rfl ?_
  refine K_range mt2159 rfl (.inl hm) rfl fun b11 => ?_
  refine K_nil ?_
  refine Q_then ?_
  refine K_block ?_
  refine K_loopD (G := List Nat × View × Option Tr × Value × Value) [7, 8, 9, 12, 13, 14, 15, 16, 17, 18, 19, 20, 21, 22, 23, 24, 25, 26, 27, 28, 29, 30] (fun g => [(7, .bool (Option.isSome g.2.2.1))]) (fun hl g => ((hl.set 0 (blk b11 (itO mb kvs.length g.1))).set 1 (blk b6 (.cells #[g.2.2.2.1, g.2.2.2.2] T30 (0, 0))))) (fun g => g.2.1) (fun g => (g.1.Nodup) ∧ (∀ i ∈ g.1, i < kvs.length) ∧ (VLe H g.2.1) ∧ (LeastOf bt (fun p => p ∈ keysAt kvs g.1 ∧ F p = true) g.2.2.1) ∧ (RepT g.2.1 (g.2.2.1.getD (.node 0 [])) [g.2.2.2.1, g.2.2.2.2])) (fun g => kvs.length - g.1.length) ([], H, none, .int .i64 0, nilS) ⟨List.nodup_nil, fun i hi => (by cases hi), VLe.refl _, fun q hq => (by cases hq.1), repT_leaf _ 0 (by simp [i64ok])⟩ ⟨rfl, trivial⟩ (by simp only [args0, Nat.reduceAdd, del, memN, beqN, Nat.reduceBEq, cond_true, cond_false]; rfl) rfl rfl ?_
  rintro ⟨seen, V, o, z, w⟩ ⟨hsn, hslt, hV, hO, hz⟩
  dsimp only at hsn hslt hV hO hz
  dsimp only [List.set, List.cons_append, List.nil_append]
  obtain ⟨z0, z1, z2, z3, hze⟩ := hz.shape
  cases hze
  refine K_seq ?_
  refine K_region ?_
  refine K_next 0 rfl rfl (.inl (hV _ _ hm)) rfl (fun hall => ?_) (fun i q u hki hni => ?_)
  ·
    refine KV (R_extract rfl rfl) rfl ?_
    refine K_nil ?_
    refine Q_then ?_
    refine K_seq ?_
    refine K_ifF rfl ?_
    refine K_exit ?_
    refine Q_then_exit ?_
    refine Q_then_exit ?_
    refine Q_block_exit ?_
    refine Q_then ?_
    refine K_seq ?_
    refine K_seq ?_
    rcases o with _ | w0t
    ·
      have hO2 := hO.all (fun p t hp => (keysAt_all hsn hslt hall).mem_iff.2 (hM.mem hp))
      refine K_region ?_
      refine KV (R_move rfl) rfl ?_
      refine KV (R_not rfl) rfl ?_
      refine KV (R_move rfl) rfl ?_
      refine K_splitB ?_ ?_
      ·
        intro h33
        refine K_gno rfl rfl rfl rfl ?_
        refine K_gno rfl rfl rfl rfl ?_
        refine K_gno rfl rfl rfl rfl ?_
        refine KV (R_pickT rfl rfl) rfl ?_
        refine K_nil ?_
        refine Q_then ?_
        refine K_ifT rfl ?_
        refine K_seq ?_
        refine K_region ?_
        refine KV (R_build z30 pl30 rfl rfl) rfl ?_
        refine K_storeW ty30 2 rfl rfl rfl rfl rfl rfl rfl ?_
        refine KV (R_assign rfl) rfl ?_
        refine K_nil ?_
        refine Q_then ?_
        refine K_ret ?_
        refine Q_then_ret ?_
        refine results_gen (rs := [.cell 4 57, .tmp 5]) (vs := [_, _]) rfl ⟨⟨_, _, _, _, _, _, 2, rfl, rfl, ty30, (fun e => by cases e), rfl, rfl⟩, ⟨rfl, trivial⟩⟩ ?_
        exact ⟨_, none, rfl, repT_leaf _ 0 (by simp [i64ok]), hO2⟩
      ·
        intro h33
        cases h33
    ·
      have hbw := (hO.1).elim fun p hp => hb p _ hp.2
      have hO2 := hO.all (fun p t hp => (keysAt_all hsn hslt hall).mem_iff.2 (hM.mem hp))
      refine K_region ?_
      refine KV (R_move rfl) rfl ?_
      refine KV (R_not rfl) rfl ?_
      refine KV (R_move rfl) rfl ?_
      refine K_splitB ?_ ?_
      ·
        intro h33
        cases h33
      ·
        intro h33
        refine K_gyes rfl rfl ?_
        refine KV (R_loadW ty30 1 rfl rfl rfl rfl) rfl ?_
        refine K_gyes rfl rfl ?_
        refine K_call c2185 rfl rfl (reach36_spec w0t V _ (by omega) hz) ?_
        rintro _ V2 hv2 rfl
        refine K_gyes rfl rfl ?_
        refine KV (R_notP rfl) rfl ?_
        refine KV (R_pickF rfl rfl) rfl ?_
        refine K_nil ?_
        refine Q_then ?_
        refine K_if rfl (fun h37 => ?_) (fun h37 => ?_)
        ·
          exact absurd ⟨by omega, by omega⟩ h37
        ·
          refine K_skip ?_
          refine Q_then ?_
          refine K_seq ?_
          refine K_region ?_
          refine KV (R_loadW ty30 1 rfl rfl rfl rfl) rfl ?_
          refine K_call c2186 rfl rfl (tclone_spec _ w0t V2 _ (Nat.le_refl _) (by omega) (hz.mono hv2)) ?_
          rintro _ V3 hv3 ⟨ds, rfl, hds⟩
          obtain ⟨x0, x1, x2, x3, rfl⟩ := hds.shape
          refine K_storeW ty30 2 rfl rfl rfl rfl rfl rfl rfl ?_
          refine KV (R_assign rfl) rfl ?_
          refine K_nil ?_
          refine Q_then ?_
          refine K_ret ?_
          refine results_gen (rs := [.cell 4 57, .tmp 5]) (vs := [_, _]) rfl ⟨⟨_, _, _, _, _, _, 2, rfl, rfl, ty30, (fun e => by cases e), rfl, rfl⟩, ⟨rfl, trivial⟩⟩ ?_
          exact ⟨[.int .i64 x0, .slice x1 x2 x3], some w0t, rfl, hds, hO2⟩
  ·
    obtain ⟨hnd2, hlt2, hle2⟩ := seen_snoc hsn hslt hni (List.getElem?_eq_some_iff.1 hki).1
    obtain ⟨u0, y0, y1, y2, y3, hbq, rfl, yR⟩ := (hM.mono hV).key hki
    have hks := keysAt_snoc (seen := seen) hki
    have hbu := hb _ _ hbq
    refine KV (R_extract rfl rfl) rfl ?_
    refine K_nil ?_
    refine Q_then ?_
    refine K_seq ?_
    refine K_ifT rfl ?_
    refine K_skip ?_
    refine Q_then ?_
    refine K_block ?_
    refine K_seq ?_
    refine K_region ?_
    refine KV (R_entry 0 rfl rfl (.inl (hV _ _ hm)) hki) rfl ?_
    refine KV (R_extract rfl rfl) rfl ?_
    refine KV (R_extract rfl rfl) rfl ?_
    refine KA (A_alloc z30) rfl fun b9 => ?_
    refine KV (R_assign rfl) rfl ?_
    refine K_storeW ty30 0 rfl rfl rfl rfl rfl rfl rfl ?_
    refine K_nil ?_
    refine Q_then ?_
    refine K_seq ?_
    rcases o with _ | w0t
    ·
      refine K_region ?_
      refine KV (R_move rfl) rfl ?_
      refine KV (R_move rfl) rfl ?_
      refine K_callV hcal rfl rfl rfl (hf q V hV) ?_
      rintro _ V2 hv2 rfl
      refine KV (R_move rfl) rfl ?_
      refine K_splitB ?_ ?_
      ·
        intro h20
        refine K_gyes rfl rfl ?_
        refine KV (R_move rfl) rfl ?_
        refine K_gyes rfl rfl ?_
        refine KV (R_not rfl) rfl ?_
        refine K_gyes rfl rfl ?_
        refine KV (R_move rfl) rfl ?_
        refine K_splitB ?_ ?_
        ·
          intro h23
          refine K_gno rfl rfl rfl rfl ?_
          refine K_gno rfl rfl rfl rfl ?_
          refine K_gno rfl rfl rfl rfl ?_
          refine K_gno rfl rfl rfl rfl ?_
          refine K_gyes rfl rfl ?_
          refine KV (R_pickT rfl rfl) rfl ?_
          refine KV (R_pickT rfl rfl) rfl ?_
          refine K_nil ?_
          refine Q_then ?_
          refine K_ifT rfl ?_
          refine K_region ?_
          refine KV (R_loadW ty30 0 rfl rfl rfl rfl) rfl ?_
          refine K_storeW ty30 2 rfl rfl rfl rfl rfl rfl rfl ?_
          refine KV (R_assign rfl) rfl ?_
          refine K_nil ?_
          refine Q_block ?_
          refine KQ_sel [1, 1, 1] rfl ?_
          refine Q_nextD (seen ++ [i], V2, some u0, .int .i64 y0, .slice y1 y2 y3) ⟨hnd2, hlt2, hV.trans hv2, by rw [hks]; exact hO.first hbq (keys_yes h20), yR.mono hv2⟩ (by (try dsimp only); rw [List.length_append]; simp only [List.length_cons, List.length_nil]; omega) ⟨rfl, trivial⟩ rfl rfl rfl
        ·
          intro h23
          cases h23
      ·
        intro h20
        refine K_gno rfl rfl rfl rfl ?_
        refine K_gno rfl rfl rfl rfl ?_
        refine K_gno rfl rfl rfl rfl ?_
        refine K_gun rfl rfl rfl ?_
        refine K_gun rfl rfl rfl ?_
        refine K_gun rfl rfl rfl ?_
        refine K_gun rfl rfl rfl ?_
        refine K_gno rfl rfl rfl rfl ?_
        refine KV (R_pickF rfl rfl) rfl ?_
        refine K_nil ?_
        refine Q_then ?_
        refine K_ifF rfl ?_
        refine K_skip ?_
        refine Q_block ?_
        refine KQ_sel [1, 1, 1] rfl ?_
        refine Q_nextD (seen ++ [i], V2, none, .int .i64 z0, .slice z1 z2 z3) ⟨hnd2, hlt2, hV.trans hv2, by rw [hks]; exact hO.skip _ (keys_no h20) (fun p hp => ⟨List.mem_append_left _ hp.1, hp.2⟩), hz.mono hv2⟩ (by (try dsimp only); rw [List.length_append]; simp only [List.length_cons, List.length_nil]; omega) ⟨rfl, trivial⟩ rfl rfl rfl
    ·
      have hbw := (hO.1).elim fun p hp => hb p _ hp.2
      refine K_region ?_
      refine KV (R_move rfl) rfl ?_
      refine KV (R_move rfl) rfl ?_
      refine K_callV hcal rfl rfl rfl (hf q V hV) ?_
      rintro _ V2 hv2 rfl
      refine KV (R_move rfl) rfl ?_
      refine K_splitB ?_ ?_
      ·
        intro h20
        refine K_gyes rfl rfl ?_
        refine KV (R_move rfl) rfl ?_
        refine K_gyes rfl rfl ?_
        refine KV (R_not rfl) rfl ?_
        refine K_gyes rfl rfl ?_
        refine KV (R_move rfl) rfl ?_
        refine K_splitB ?_ ?_
        ·
          intro h23
          cases h23
        ·
          intro h23
          refine K_gyes rfl rfl ?_
          refine KV (R_loadW ty30 0 rfl rfl rfl rfl) rfl ?_
          refine K_gyes rfl rfl ?_
          refine KV (R_loadW ty30 2 rfl rfl rfl rfl) rfl ?_
          refine K_gyes rfl rfl ?_
          refine K_call c2184 rfl rfl (rcmp_spec _ u0 w0t V2 _ _ (Nat.le_refl _) (by omega) (by omega) (yR.mono hv2) (hz.mono hv2)) ?_
          rintro _ V3 hv3 rfl
          refine K_gyes rfl rfl ?_
          refine KV (R_cmp rfl rfl rfl) rfl ?_
          refine K_gyes rfl rfl ?_
          refine KV (R_pickF rfl rfl) rfl ?_
          refine KV (R_pickT rfl rfl) rfl ?_
          refine K_nil ?_
          refine Q_then ?_
          refine K_if rfl (fun h29 => ?_) (fun h29 => ?_)
          ·
            refine K_region ?_
            refine KV (R_loadW ty30 0 rfl rfl rfl rfl) rfl ?_
            refine K_storeW ty30 2 rfl rfl rfl rfl rfl rfl rfl ?_
            refine KV (R_assign rfl) rfl ?_
            refine K_nil ?_
            refine Q_block ?_
            refine KQ_sel [1, 1, 1] rfl ?_
            refine Q_nextD (seen ++ [i], V3, some u0, .int .i64 y0, .slice y1 y2 y3) ⟨hnd2, hlt2, hV.trans (hv2.trans hv3), by rw [hks]; exact hO.less hbq (keys_yes h20) h29, yR.mono (hv2.trans hv3)⟩ (by (try dsimp only); rw [List.length_append]; simp only [List.length_cons, List.length_nil]; omega) ⟨rfl, trivial⟩ rfl rfl rfl
          ·
            refine K_skip ?_
            refine Q_block ?_
            refine KQ_sel [1, 1, 1] rfl ?_
            refine Q_nextD (seen ++ [i], V3, some w0t, .int .i64 z0, .slice z1 z2 z3) ⟨hnd2, hlt2, hV.trans (hv2.trans hv3), by rw [hks]; exact hO.stay hbq (keys_yes h20) h29, hz.mono (hv2.trans hv3)⟩ (by (try dsimp only); rw [List.length_append]; simp only [List.length_cons, List.length_nil]; omega) ⟨rfl, trivial⟩ rfl rfl rfl
      ·
        intro h20
        refine K_gno rfl rfl rfl rfl ?_
        refine K_gno rfl rfl rfl rfl ?_
        refine K_gno rfl rfl rfl rfl ?_
        refine K_gun rfl rfl rfl ?_
        refine K_gun rfl rfl rfl ?_
        refine K_gun rfl rfl rfl ?_
        refine K_gun rfl rfl rfl ?_
        refine K_gno rfl rfl rfl rfl ?_
        refine KV (R_pickF rfl rfl) rfl ?_
        refine K_nil ?_
        refine Q_then ?_
        refine K_ifF rfl ?_
        refine K_skip ?_
        refine Q_block ?_
        refine KQ_sel [1, 1, 1] rfl ?_
        refine Q_nextD (seen ++ [i], V2, some w0t, .int .i64 z0, .slice z1 z2 z3) ⟨hnd2, hlt2, hV.trans hv2, by rw [hks]; exact hO.skip _ (keys_no h20) (fun p hp => ⟨List.mem_append_left _ hp.1, hp.2⟩), hz.mono hv2⟩ (by (try dsimp only); rw [List.length_append]; simp only [List.length_cons, List.length_nil]; omega) ⟨rfl, trivial⟩ rfl rfl rfl

theorem lt1_spec (b : Nat) (v0 v1 v2 vf : Value) (F : List Int) (q : Int) (H : View) (hb : At H b 0 [v0, v1, v2, vf]) (hf : SI H vf F) (hl : F.length ≤ 1099511627776) : Sat Tryz.prog F2169 ([] ++ [Value.int .i64 q] ++ [ptr b]).toArray H (fun r _ => r = .bool (decide (q ∈ F))) := by
  have hb3 := hb.one (j := 3) rfl
  obtain ⟨fa, fc, rfl⟩ := hf.shape
  refine enterO (n := 8) (args := [.int .i64 q, ptr b]) Tryz.func37 rfl rfl rfl fun w0 => ?_
  refine K_seq ?_
  refine K_region ?_
  refine KV (R_assign rfl) rfl ?_
  refine K_nil ?_
  refine Q_then ?_
  refine K_seq ?_
  refine K_region ?_
  refine KV (R_fieldAddr 3 fd50_3 rfl) rfl ?_
  refine KV (R_loadH ty25 rfl (hb3) rfl (fun _ => rfl) rfl) rfl ?_
  refine KV (R_move rfl) rfl ?_
  refine K_call c2041 rfl rfl (containsI_spec q F _ H hf hl) ?_
  rintro _ V1 hv1 rfl
  refine KV (R_assign rfl) rfl ?_
  refine K_nil ?_
  refine Q_then ?_
  refine K_ret ?_
  refine results_gen (rs := [.tmp 3]) (vs := [_]) rfl ⟨rfl, trivial⟩ ?_
  rfl

set_option maxHeartbeats 1000000 in
theorem leasttree_spec (a : Au) (v1 v2 v3 : Value) (H : View) (ha : RepAu H a v1 v2 v3) : Sat Tryz.prog F2153 #[.agg #[v1, .int .i64 a.states, v2, v3]] H (fun r H' => ∃ ds o, r = .tuple #[.agg ds.toArray, .bool (Option.isSome o), .int .i64 (auErr a)] ∧ RepT H' (o.getD (.node 0 [])) ds ∧
    (auErr a ≠ 0 → o = none ∧ ds = [.int .i64 0, .slice none 0 0]) ∧ (auErr a = 0 → ∃ bt, Best a.rules bt ∧ LeastOf bt (fun q => q ∈ a.final) o)) := by
  obtain ⟨ar, arc, rfl⟩ := ha.r.shape
  obtain ⟨af, afc, rfl⟩ := ha.f.shape
  obtain ⟨au, auc, rfl⟩ := ha.ushape
  have hfl := ha.fl
  refine enterO (n := 24) (args := [.agg #[.slice ar a.ranks.length arc, .int .i64 a.states, .slice au a.rules.length auc, .slice af a.final.length afc]]) Tryz.func14 rfl rfl rfl fun w0 => ?_
  refine K_seq ?_
  refine K_region ?_
  refine KA (A_box rfl) rfl fun b1 => ?_
  refine KA (A_alloc z30) rfl fun b2 => ?_
  refine KV (R_assign rfl) rfl ?_
  refine KV (R_assign rfl) rfl ?_
  refine K_nil ?_
  refine Q_then ?_
  refine K_seq ?_
  refine K_seq ?_
  refine K_region ?_
  refine KV (R_loadW ty50 1 rfl rfl rfl rfl) rfl ?_
  refine K_call c77 rfl rfl (ncheck_spec a _ _ _ H ha) ?_
  rintro _ V1 hv1 rfl
  refine KV (R_assign rfl) rfl ?_
  refine K_nil ?_
  refine Q_then ?_
  refine K_seq ?_
  refine K_region ?_
  refine KV (R_move rfl) rfl ?_
  refine KV (R_cmp rfl rfl rfl) rfl ?_
  refine K_nil ?_
  refine Q_then ?_
  refine K_if rfl (fun h11 => ?_) (fun h11 => ?_)
  ·
    refine K_seq ?_
    refine K_region ?_
    refine KV (R_build z30 pl30 rfl rfl) rfl ?_
    refine KV (R_move rfl) rfl ?_
    refine K_storeW ty30 0 rfl rfl rfl rfl rfl rfl rfl ?_
    refine KV (R_assign rfl) rfl ?_
    refine KV (R_assign rfl) rfl ?_
    refine K_nil ?_
    refine Q_then ?_
    refine K_ret ?_
    refine Q_then_ret ?_
    refine results_gen (rs := [.cell 2 57, .tmp 3, .tmp 4]) (vs := [_, _, _]) rfl ⟨⟨_, _, _, _, _, _, 0, rfl, rfl, ty30, (fun e => by cases e), rfl, rfl⟩, ⟨rfl, ⟨rfl, trivial⟩⟩⟩ ?_
    exact ⟨_, none, rfl, repT_leaf _ 0 (by simp [i64ok]), fun _ => ⟨rfl, rfl⟩, fun h => absurd h h11⟩
  ·
    have hae : auErr a = 0 := Decidable.not_not.1 h11
    have hok := AuOk.of hae
    have hto : ∀ r ∈ a.rules, 0 ≤ r.to ∧ r.to < (a.states.toNat : Int) := fun r hr => by
      have := (hok.ru r hr).2.2.2.2
      have := hok.st
      omega
    refine K_skip ?_
    refine Q_then ?_
    refine K_seq ?_
    refine KC_front 1 rfl ?_
    try dsimp only [List.eraseIdx]
    refine KC_pubF fun V2 hv2 hb1 => ?_
    skip
    have hA : At V2 b1 0 [.slice ar a.ranks.length arc, .int .i64 a.states, .slice au a.rules.length auc, .slice af a.final.length afc] := At.of hb1
    refine K_region ?_
    refine KV (R_loadH ty50 rfl (hA) rfl (fun e => by cases e) rfl) rfl ?_
    refine K_call c2168 rfl rfl (steps_spec a _ _ _ V2 (ha.mono (hv1.trans hv2))) ?_
    rintro _ V3 hv3 ⟨sa, sc, cells, rfl, sS, sL⟩
    refine K_call c2167 rfl rfl (leasts_spec a hok sa sc cells V3 sS sL) ?_
    rintro _ V4 hv4 ⟨mb, kvs, bt, rfl, hm, hM, hB⟩
    refine KV (R_makeFunc rfl rfl) rfl ?_
    refine K_call c2166 rfl rfl (least_spec F2169 [ptr b1] (fun q => decide (q ∈ a.final)) c2169 V4 mb kvs bt hm hM (fun q t hq => ⟨((hB.inv q t hq).2), by have := hB.inv.deep hto hq; have := hok.st; omega⟩) (fun q V hV => lt1_spec b1 _ _ _ _ a.final q V ((hA.mono (hv3.trans hv4)).mono hV) (ha.mono (hv1.trans (hv2.trans (hv3.trans (hv4.trans hV))))).f hfl)) ?_
    rintro _ V5 hv5 ⟨ds, o, rfl, hds, hO⟩
    obtain ⟨x0, x1, x2, x3, rfl⟩ := hds.shape
    refine KV (R_move rfl) rfl ?_
    refine KV (R_extract rfl rfl) rfl ?_
    refine KV (R_extract rfl rfl) rfl ?_
    refine KA (A_alloc z30) rfl fun b6 => ?_
    refine K_storeW ty30 0 rfl rfl rfl rfl rfl rfl rfl ?_
    refine KV (R_assign rfl) rfl ?_
    refine K_nil ?_
    refine Q_then ?_
    refine K_seq ?_
    refine K_region ?_
    refine KV (R_loadW ty30 0 rfl rfl rfl rfl) rfl ?_
    refine KV (R_move rfl) rfl ?_
    refine K_storeW ty30 1 rfl rfl rfl rfl rfl rfl rfl ?_
    refine KV (R_assign rfl) rfl ?_
    refine KV (R_assign rfl) rfl ?_
    refine K_nil ?_
    refine Q_then ?_
    refine K_ret ?_
    refine results_gen (rs := [.cell 2 57, .tmp 3, .tmp 4]) (vs := [_, _, _]) rfl ⟨⟨_, _, _, _, _, _, 1, rfl, rfl, ty30, (fun e => by cases e), rfl, rfl⟩, ⟨rfl, ⟨rfl, trivial⟩⟩⟩ ?_
    refine ⟨[.int .i64 x0, .slice x1 x2 x3], o, by rw [hae]; rfl, hds, fun h => absurd hae h, fun _ => ⟨bt, hB, ?_⟩⟩
    exact hO.skip _ (fun p hp => decide_eq_true hp) (fun p hp => of_decide_eq_true hp)
end Go.Proofs.X

namespace Go.Proofs.X
open Go Pal Go.Proofs
attribute [local irreducible] Pal.KO Pal.KC Pal.KQ Pal.KD
theorem c2029 : callable Tryz.prog F2029 = true := by kernel_rfl
theorem c2170 : callable Tryz.prog F2170 = true := by kernel_rfl
theorem c2171 : callable Tryz.prog F2171 = true := by kernel_rfl
theorem c2172 : callable Tryz.prog F2172 = true := by kernel_rfl
theorem c2173 : callable Tryz.prog F2173 = true := by kernel_rfl
theorem c2187 : callable Tryz.prog F2187 = true := by kernel_rfl
theorem c2188 : callable Tryz.prog F2188 = true := by kernel_rfl
theorem fin11_spec (m : List Bool) (b1 bc : Nat) (q : Int) (H : View) (hml : m.length ≤ 65536) (hA : At H b1 0 [slc m.length bc]) (hc : At H bc 0 (mkL m).toList) (hq : 0 ≤ q ∧ q < m.length) : Sat Tryz.prog F2172 ([] ++ [Value.int .i64 q] ++ [ptr b1]).toArray H (fun v _ => v = .bool (!onL m q)) := by
  have hcm := hc.mark (q := q) (by omega)
  refine enterO (n := 9) (args := [.int .i64 q, ptr b1]) Tryz.func43 rfl rfl rfl fun w0 => ?_
  refine K_seq ?_
  refine K_region ?_
  refine KV (R_assign rfl) rfl ?_
  refine K_nil ?_
  refine Q_then ?_
  refine K_seq ?_
  refine K_region ?_
  refine KV (R_loadH ty52 rfl (hA) rfl (fun _ => rfl) rfl) rfl ?_
  refine KV (R_move rfl) rfl ?_
  refine KV (R_index sl52 ty4 rfl rfl ⟨by omega, by omega⟩) rfl ?_
  refine KV (R_loadH ty4 rfl (hcm) rfl (fun _ => rfl) rfl) rfl ?_
  refine KV (R_not rfl) rfl ?_
  refine KV (R_assign rfl) rfl ?_
  refine K_nil ?_
  refine Q_then ?_
  refine K_ret ?_
  refine results_gen (rs := [.tmp 3]) (vs := [_]) rfl ⟨rfl, trivial⟩ ?_
  rfl

theorem fin1_spec (m : List Bool) (b7 b6 bc : Nat) (s : Int) (r : Rl) (va : Value) (H : View) (hml : m.length ≤ 65536) (hA7 : At H b7 0 [.int .i64 s]) (hA6 : At H b6 0 [slc m.length bc]) (hc : At H bc 0 (mkL m).toList) (hrv : RVok H (r, va)) (hra : ∀ q ∈ r.args, 0 ≤ q ∧ q < (m.length : Int)) : Sat Tryz.prog F2171 ([] ++ [Value.agg (cellRV (r, va)).toArray] ++ [ptr b7, ptr b6]).toArray H (fun v _ => v = .bool (decide (r.to = s) && r.args.any fun q => !onL m q)) := by
  obtain ⟨xa, xcp, hxe⟩ := hrv.1.shape
  dsimp only at hxe
  subst hxe
  have hxl := hrv.2.1
  dsimp only at hxl
  have hrs : SI H (.slice xa r.args.length xcp) r.args := hrv.1
  refine enterO (n := 15) (args := [.agg #[.int .i64 r.sym, .slice xa r.args.length xcp, .int .i64 r.to], ptr b7, ptr b6]) Tryz.func41 rfl rfl rfl fun w0 => ?_
  refine K_seq ?_
  refine K_region ?_
  refine KA (A_box rfl) rfl fun b3 => ?_
  refine KV (R_assign rfl) rfl ?_
  refine K_nil ?_
  refine Q_then ?_
  refine K_seq ?_
  refine K_region ?_
  refine KV (R_fieldAddr 2 fd85_2 rfl) rfl ?_
  refine KV (R_loadO ty3 0 rfl rfl rfl rfl (fun _ => rfl) rfl) rfl ?_
  refine KV (R_loadH ty3 rfl (hA7) rfl (fun _ => rfl) rfl) rfl ?_
  refine KV (R_cmp rfl rfl rfl) rfl ?_
  refine KV (R_move rfl) rfl ?_
  refine K_split ?_ ?_
  ·
    intro h9
    refine K_gyes rfl rfl ?_
    refine KV (R_fieldAddr 1 fd85_1 rfl) rfl ?_
    refine K_gyes rfl rfl ?_
    refine KV (R_loadO ty25 0 rfl rfl rfl rfl (fun _ => rfl) rfl) rfl ?_
    refine K_gyes rfl rfl ?_
    refine KV (R_makeFunc rfl rfl) rfl ?_
    refine K_gyes rfl rfl ?_
    refine K_call c86 rfl rfl (sicon_spec F2172 [ptr b6] (fun q => !onL m q) r.args _ H hrv.1 hxl c2172 (fun x V hx hV => fin11_spec m b6 bc x V hml (hA6.mono hV) (hc.mono hV) (hra x hx))) ?_
    rintro _ V1 hv1 rfl
    refine KV (R_pickT rfl rfl) rfl ?_
    refine KV (R_assign rfl) rfl ?_
    refine K_nil ?_
    refine Q_then ?_
    refine K_ret ?_
    refine results_gen (rs := [.tmp 4]) (vs := [_]) rfl ⟨rfl, trivial⟩ ?_
    refine congrArg Value.bool ?_
    rw [decide_eq_true h9, Bool.true_and]
  ·
    intro h9
    refine K_gno rfl rfl rfl rfl ?_
    refine K_gno rfl rfl rfl rfl ?_
    refine K_gno rfl rfl rfl rfl ?_
    refine K_gno rfl rfl rfl rfl ?_
    refine KV (R_pickF rfl rfl) rfl ?_
    refine KV (R_assign rfl) rfl ?_
    refine K_nil ?_
    refine Q_then ?_
    refine K_ret ?_
    refine results_gen (rs := [.tmp 4]) (vs := [_]) rfl ⟨rfl, trivial⟩ ?_
    refine congrArg Value.bool ?_
    rw [decide_eq_false h9, Bool.false_and]

theorem rlidx_spec (f : Nat) (cap : List Value) (p : Rl → Bool) (rs : List Rl) (v : Value) (H : View) (hv : RulesAt H v rs) (hl : rs.length ≤ 1099511627776) (hcal : callable Tryz.prog f = true) (hp : ∀ r va V, r ∈ rs → VLe H V → RVok V (r, va) → Sat Tryz.prog f ([] ++ [Value.agg (cellRV (r, va)).toArray] ++ cap).toArray V (fun r2 _ => r2 = .bool (p r))) :
    Sat Tryz.prog F2187 #[v, .func (.func f) #[] cap.toArray] H (fun r _ => ∃ i : Int, r = .int .i64 i ∧ (0 ≤ i ↔ ∃ x ∈ rs, p x = true)) := by
  obtain ⟨a, cp, rfl⟩ := hv.shape
  refine enterO (n := 19) (args := [.slice a rs.length cp, .func (.func f) #[] cap.toArray]) Tryz.func81 rfl rfl rfl fun w0 => ?_
  refine K_seq ?_
  refine K_region ?_
  refine KV (R_assign rfl) rfl ?_
  refine K_nil ?_
  refine Q_then ?_
  refine K_seq ?_
  refine K_seq ?_
  refine K_region ?_
  refine KV (R_move rfl) rfl ?_
  refine KV (R_len sl48 rfl) rfl ?_
  refine KV (R_move rfl) rfl ?_
  refine K_nil ?_
  refine Q_then ?_
  refine K_block ?_
  refine K_loopD (G := Nat × View) [4, 5, 8, 9, 10, 11, 12, 13, 14, 15, 16, 17, 18] (fun g => [(8, .int .i64 (g.1 : Int))]) (fun hl g => hl) (fun g => g.2) (fun g => (g.1 ≤ rs.length) ∧ (VLe H g.2) ∧ (∀ j (h : j < rs.length), j < g.1 → p rs[j] = false)) (fun g => rs.length - g.1) (0, H) ⟨Nat.zero_le _, VLe.refl _, fun j _ h => absurd h (Nat.not_lt_zero _)⟩ ⟨rfl, trivial⟩ (by simp only [args0, Nat.reduceAdd, del, memN, beqN, Nat.reduceBEq, cond_true, cond_false]; rfl) rfl rfl ?_
  rintro ⟨k, V⟩ ⟨hk0, hV, hno⟩
  dsimp only at hk0 hV hno
  dsimp only [List.set, List.cons_append, List.nil_append]
  refine K_seq ?_
  refine K_region ?_
  refine KV (R_cmp rfl rfl rfl) rfl ?_
  refine K_nil ?_
  refine Q_then ?_
  refine K_seq ?_
  refine K_if rfl (fun h9 => ?_) (fun h9 => ?_)
  ·
    have hk' : k < rs.length := by omega
    obtain ⟨ub, uo, va, hue, hrc, hrv⟩ := (hv.mono hV).elem hk'
    cases hue
    obtain ⟨xa, xcp, hxe⟩ := hrv.1.shape
    dsimp only at hxe
    subst hxe
    refine K_skip ?_
    refine Q_then ?_
    refine K_seq ?_
    refine K_block ?_
    refine K_seq ?_
    refine K_region ?_
    refine KV (R_move rfl) rfl ?_
    refine KV (R_assign rfl) rfl ?_
    refine K_nil ?_
    refine Q_then ?_
    refine K_seq ?_
    refine K_region ?_
    refine KV (R_move rfl) rfl ?_
    refine KV (R_move rfl) rfl ?_
    refine KV (R_move rfl) rfl ?_
    refine KV (R_indexN sl48 ty85 rfl rfl (by omega)) rfl ?_
    refine KV (R_loadH ty85 rfl (hrc) rfl (fun e => by cases e) rfl) rfl ?_
    refine K_callV hcal rfl rfl rfl (hp rs[k] (.slice xa rs[k].args.length xcp) V (List.getElem_mem hk') hV hrv) ?_
    rintro _ V2 hv2 rfl
    refine K_nil ?_
    refine Q_then ?_
    refine K_ifB rfl (fun h16 => ?_) (fun h16 => ?_)
    ·
      refine K_seq ?_
      refine K_region ?_
      refine KV (R_move rfl) rfl ?_
      refine KV (R_assign rfl) rfl ?_
      refine K_nil ?_
      refine Q_then ?_
      refine K_ret ?_
      refine Q_block_ret ?_
      refine Q_then_ret ?_
      refine Q_then_ret ?_
      refine Q_block_ret ?_
      refine Q_then_ret ?_
      refine results_gen (rs := [.tmp 4]) (vs := [_]) rfl ⟨rfl, trivial⟩ ?_
      exact ⟨k, rfl, ⟨fun _ => ⟨_, List.getElem_mem hk', h16⟩, fun _ => by omega⟩⟩
    ·
      have hno2 : ∀ j (h : j < rs.length), j < k + 1 → p rs[j] = false := by
        intro j h hj
        by_cases e : j = k
        · subst e; exact h16
        · exact hno j h (by omega)
      refine K_skip ?_
      refine Q_block ?_
      refine Q_then ?_
      refine K_region ?_
      refine KV (R_add rfl rfl (by omega)) rfl ?_
      refine KV (R_move rfl) rfl ?_
      refine K_nil ?_
      refine Q_nextD (k + 1, V2) ⟨hk', hV.trans hv2, hno2⟩ (by (try dsimp only); omega) ⟨rfl, trivial⟩ rfl rfl rfl
  ·
    have hk' : k = rs.length := by omega
    refine K_exit ?_
    refine Q_then_exit ?_
    refine Q_then_exit ?_
    refine Q_block_exit ?_
    refine Q_then ?_
    refine K_seq ?_
    refine K_region ?_
    refine KV (R_assign rfl) rfl ?_
    refine K_nil ?_
    refine Q_then ?_
    refine K_ret ?_
    refine results_gen (rs := [.tmp 4]) (vs := [_]) rfl ⟨rfl, trivial⟩ ?_
    refine ⟨-1, rfl, ⟨fun h => by omega, ?_⟩⟩
    rintro ⟨x, hx, hpx⟩
    obtain ⟨j, hj, rfl⟩ := List.getElem_of_mem hx
    rw [hno j hj (by omega)] at hpx; cases hpx

theorem rlcon_spec (f : Nat) (cap : List Value) (p : Rl → Bool) (rs : List Rl) (v : Value) (H : View) (hv : RulesAt H v rs) (hl : rs.length ≤ 1099511627776) (hcal : callable Tryz.prog f = true) (hp : ∀ r va V, r ∈ rs → VLe H V → RVok V (r, va) → Sat Tryz.prog f ([] ++ [Value.agg (cellRV (r, va)).toArray] ++ cap).toArray V (fun r2 _ => r2 = .bool (p r))) :
    Sat Tryz.prog F2170 #[v, .func (.func f) #[] cap.toArray] H (fun r _ => r = .bool (rs.any p)) := by
  obtain ⟨a, cp, rfl⟩ := hv.shape
  refine enterO (n := 9) (args := [.slice a rs.length cp, .func (.func f) #[] cap.toArray]) Tryz.func40 rfl rfl rfl fun w0 => ?_
  refine K_seq ?_
  refine K_region ?_
  refine KV (R_assign rfl) rfl ?_
  refine K_nil ?_
  refine Q_then ?_
  refine K_seq ?_
  refine K_region ?_
  refine KV (R_move rfl) rfl ?_
  refine KV (R_move rfl) rfl ?_
  refine K_call c2187 rfl rfl (rlidx_spec f cap p rs _ H hv hl hcal hp) ?_
  rintro _ V1 hv1 ⟨i, rfl, hi⟩
  refine KV (R_cmp rfl rfl rfl) rfl ?_
  refine KV (R_assign rfl) rfl ?_
  refine K_nil ?_
  refine Q_then ?_
  refine K_ret ?_
  refine results_gen (rs := [.tmp 4]) (vs := [_]) rfl ⟨rfl, trivial⟩ ?_
  refine congrArg Value.bool ?_
  by_cases h : 0 ≤ i
  · rw [decide_eq_true h]; exact (List.any_eq_true.2 (hi.1 h)).symm
  · rw [decide_eq_false h]; exact (Bool.eq_false_iff.2 fun h2 => h (hi.2 (List.any_eq_true.1 h2))).symm

theorem bidx_spec (y : Bool) (m : List Bool) (bc : Nat) (H : View) (hml : m.length ≤ 65536) (hc : At H bc 0 (mkL m).toList) : Sat Tryz.prog F2188 #[slc m.length bc, .bool y] H (fun r _ => ∃ i : Int, r = .int .i64 i ∧ (0 ≤ i ↔ y ∈ m)) := by
  refine enterO (n := 19) (args := [slc m.length bc, .bool y]) Tryz.func83 rfl rfl rfl fun w0 => ?_
  refine K_seq ?_
  refine K_region ?_
  refine KV (R_assign rfl) rfl ?_
  refine K_nil ?_
  refine Q_then ?_
  refine K_seq ?_
  refine K_seq ?_
  refine K_region ?_
  refine KV (R_move rfl) rfl ?_
  refine KV (R_len sl52 rfl) rfl ?_
  refine KV (R_move rfl) rfl ?_
  refine K_nil ?_
  refine Q_then ?_
  refine K_block ?_
  refine K_loopD (G := Nat) [4, 5, 8, 9, 10, 11, 12, 13, 14, 15, 16, 17, 18] (fun g => [(8, .int .i64 (g : Int))]) (fun hl g => hl) (fun g => H) (fun g => (g ≤ m.length) ∧ (∀ j (h : j < m.length), j < g → m[j] ≠ y)) (fun g => m.length - g) (0 : Nat) ⟨Nat.zero_le _, fun j _ h => absurd h (Nat.not_lt_zero _)⟩ ⟨rfl, trivial⟩ (by simp only [args0, Nat.reduceAdd, del, memN, beqN, Nat.reduceBEq, cond_true, cond_false]; rfl) rfl rfl ?_
  rintro k ⟨hk0, hno⟩
  try dsimp only at hk0
  try dsimp only at hno
  dsimp only [List.set, List.cons_append, List.nil_append]
  refine K_seq ?_
  refine K_region ?_
  refine KV (R_cmp rfl rfl rfl) rfl ?_
  refine K_nil ?_
  refine Q_then ?_
  refine K_seq ?_
  refine K_if rfl (fun h9 => ?_) (fun h9 => ?_)
  ·
    have hk' : k < m.length := by omega
    have hcx := hc.markN hk'
    rw [onL_get (k := k) (Int.toNat_natCast _) hk'] at hcx
    refine K_skip ?_
    refine Q_then ?_
    refine K_seq ?_
    refine K_block ?_
    refine K_seq ?_
    refine K_region ?_
    refine KV (R_move rfl) rfl ?_
    refine KV (R_assign rfl) rfl ?_
    refine K_nil ?_
    refine Q_then ?_
    refine K_seq ?_
    refine K_region ?_
    refine KV (R_move rfl) rfl ?_
    refine KV (R_move rfl) rfl ?_
    refine KV (R_move rfl) rfl ?_
    refine KV (R_indexN sl52 ty4 rfl rfl (by omega)) rfl ?_
    refine KV (R_loadH ty4 rfl (hcx) rfl (fun _ => rfl) rfl) rfl ?_
    refine KV (R_boolEq (by kernel_rfl) rfl rfl) rfl ?_
    refine K_nil ?_
    refine Q_then ?_
    refine K_ifB rfl (fun h16 => ?_) (fun h16 => ?_)
    ·
      refine K_seq ?_
      refine K_region ?_
      refine KV (R_move rfl) rfl ?_
      refine KV (R_assign rfl) rfl ?_
      refine K_nil ?_
      refine Q_then ?_
      refine K_ret ?_
      refine Q_block_ret ?_
      refine Q_then_ret ?_
      refine Q_then_ret ?_
      refine Q_block_ret ?_
      refine Q_then_ret ?_
      refine results_gen (rs := [.tmp 4]) (vs := [_]) rfl ⟨rfl, trivial⟩ ?_
      exact ⟨k, rfl, ⟨fun _ => (show y = m[k] by simpa using h16) ▸ List.getElem_mem hk', fun _ => by omega⟩⟩
    ·
      have hno2 : ∀ j (h : j < m.length), j < k + 1 → m[j] ≠ y := by
        intro j h hj
        by_cases e : j = k
        · subst e; intro e2; rw [e2] at h16; simp at h16
        · exact hno j h (by omega)
      refine K_skip ?_
      refine Q_block ?_
      refine Q_then ?_
      refine K_region ?_
      refine KV (R_add rfl rfl (by omega)) rfl ?_
      refine KV (R_move rfl) rfl ?_
      refine K_nil ?_
      refine Q_nextD ((k + 1)) ⟨hk', hno2⟩ (by (try dsimp only); omega) ⟨rfl, trivial⟩ rfl rfl rfl
  ·
    have hk' : k = m.length := by omega
    refine K_exit ?_
    refine Q_then_exit ?_
    refine Q_then_exit ?_
    refine Q_block_exit ?_
    refine Q_then ?_
    refine K_seq ?_
    refine K_region ?_
    refine KV (R_assign rfl) rfl ?_
    refine K_nil ?_
    refine Q_then ?_
    refine K_ret ?_
    refine results_gen (rs := [.tmp 4]) (vs := [_]) rfl ⟨rfl, trivial⟩ ?_
    refine ⟨-1, rfl, ⟨fun h => by omega, ?_⟩⟩
    intro hx
    obtain ⟨j, hj, e⟩ := List.getElem_of_mem hx
    exact absurd e (hno j hj (by omega))

theorem bcon_spec (y : Bool) (m : List Bool) (bc : Nat) (H : View) (hml : m.length ≤ 65536) (hc : At H bc 0 (mkL m).toList) : Sat Tryz.prog F2173 #[slc m.length bc, .bool y] H (fun r _ => r = .bool (decide (y ∈ m))) := by
  refine enterO (n := 9) (args := [slc m.length bc, .bool y]) Tryz.func44 rfl rfl rfl fun w0 => ?_
  refine K_seq ?_
  refine K_region ?_
  refine KV (R_assign rfl) rfl ?_
  refine K_nil ?_
  refine Q_then ?_
  refine K_seq ?_
  refine K_region ?_
  refine KV (R_move rfl) rfl ?_
  refine KV (R_move rfl) rfl ?_
  refine K_call c2188 rfl rfl (bidx_spec y m bc H hml hc) ?_
  rintro _ V1 hv1 ⟨i, rfl, hi⟩
  refine KV (R_cmp rfl rfl rfl) rfl ?_
  refine KV (R_assign rfl) rfl ?_
  refine K_nil ?_
  refine Q_then ?_
  refine K_ret ?_
  refine results_gen (rs := [.tmp 4]) (vs := [_]) rfl ⟨rfl, trivial⟩ ?_
  refine congrArg Value.bool ?_
  by_cases h : 0 ≤ i
  · rw [decide_eq_true h]; exact (decide_eq_true (hi.1 h)).symm
  · rw [decide_eq_false h]; exact (decide_eq_false fun h2 => h (hi.2 h2)).symm

set_option maxHeartbeats 1000000 in
theorem isfinite_spec (a : Au) (v1 v2 v3 : Value) (H : View) (ha : RepAu H a v1 v2 v3) : Sat Tryz.prog F2154 #[.agg #[v1, .int .i64 a.states, v2, v3]] H (fun r _ => r = .tuple #[.bool (if auErr a = 0 then finM (normA (trimA a)) else false), .int .i64 (auErr a)]) := by
  obtain ⟨ar, arc, rfl⟩ := ha.r.shape
  obtain ⟨af, afc, rfl⟩ := ha.f.shape
  obtain ⟨au, auc, rfl⟩ := ha.ushape
  refine enterO (n := 49) (args := [.agg #[.slice ar a.ranks.length arc, .int .i64 a.states, .slice au a.rules.length auc, .slice af a.final.length afc]]) Tryz.func15 rfl rfl rfl fun w0 => ?_
  refine K_seq ?_
  refine K_region ?_
  refine KA (A_box rfl) rfl fun b1 => ?_
  refine KV (R_assign rfl) rfl ?_
  refine KV (R_assign rfl) rfl ?_
  refine K_nil ?_
  refine Q_then ?_
  refine K_seq ?_
  refine K_region ?_
  refine KV (R_loadW ty50 0 rfl rfl rfl rfl) rfl ?_
  refine K_call c2029 rfl rfl (ntrim_spec a _ _ _ H ha) ?_
  rintro _ V1 hv1 ⟨n1, n2, n3, rfl, hN⟩
  obtain ⟨nr, nrc, rfl⟩ := hN.r.shape
  obtain ⟨nf, nfc, rfl⟩ := hN.f.shape
  obtain ⟨nu, nuc, rfl⟩ := hN.ushape
  refine KV (R_move rfl) rfl ?_
  refine KV (R_extract rfl rfl) rfl ?_
  refine KV (R_extract rfl rfl) rfl ?_
  refine KA (A_alloc z50) rfl fun b4 => ?_
  refine K_storeW ty50 0 rfl rfl rfl rfl rfl rfl rfl ?_
  refine KV (R_assign rfl) rfl ?_
  refine K_nil ?_
  refine Q_then ?_
  refine K_seq ?_
  refine K_seq ?_
  refine K_region ?_
  refine KV (R_move rfl) rfl ?_
  refine KV (R_cmp rfl rfl rfl) rfl ?_
  refine K_nil ?_
  refine Q_then ?_
  refine K_if rfl (fun h15 => ?_) (fun h15 => ?_)
  ·
    refine K_seq ?_
    refine K_region ?_
    refine KV (R_move rfl) rfl ?_
    refine KV (R_assign rfl) rfl ?_
    refine KV (R_assign rfl) rfl ?_
    refine K_nil ?_
    refine Q_then ?_
    refine K_ret ?_
    refine Q_then_ret ?_
    refine results_gen (rs := [.tmp 2, .tmp 3]) (vs := [_, _]) rfl ⟨rfl, ⟨rfl, trivial⟩⟩ ?_
    dsimp only
    rw [if_neg h15]
    rfl
  ·
    have hae : auErr a = 0 := Decidable.not_not.1 h15
    rw [errAu_ok hae] at hN ⊢
    have hokT := normA_ok (trimA_ok (AuOk.of hae))
    have hTs := hokT.st
    have hsn : Value.int .i64 (normA (trimA a)).states = .int .i64 (((normA (trimA a)).states.toNat : Nat) : Int) := by rw [Int.toNat_of_nonneg hTs.1]
    have hTu := hokT.ul
    refine K_skip ?_
    refine Q_then ?_
    refine K_seq ?_
    refine K_region ?_
    refine KV (R_fieldAddr 1 fd50_1 rfl) rfl ?_
    refine KV (R_loadO ty3 0 rfl rfl rfl rfl (fun _ => rfl) rfl) rfl ?_
    refine KA (A_makeSlice (k := (normA (trimA a)).states.toNat) ap52 z4 ty4 (congrArg some hsn) (congrArg some hsn) (by omega) (by omega)) rfl fun b19 => ?_
    refine KA (A_alloc z52) rfl fun b6 => ?_
    refine K_storeW ty52 0 rfl rfl rfl rfl rfl rfl rfl ?_
    refine K_nil ?_
    refine KQ_front 0 rfl ?_
    try dsimp only [List.eraseIdx]
    refine KQ_pubF fun V2 hv2 hb6 => ?_
    skip
    rw [show madeCells (Value.bool false).cells ((normA (trimA a)).states.toNat * 1) = mkL (noneL (normA (trimA a)).states.toNat) from mkL_made _]
    have hA6 : At V2 b6 0 [slc (normA (trimA a)).states.toNat b19] := At.of hb6
    refine Q_then ?_
    refine K_seq ?_
    refine K_seq ?_
    refine K_region ?_
    refine KV (R_fieldAddr 1 fd50_1 rfl) rfl ?_
    refine KV (R_loadO ty3 1 rfl rfl rfl rfl (fun _ => rfl) rfl) rfl ?_
    refine KV (R_move rfl) rfl ?_
    refine K_nil ?_
    refine Q_then ?_
    refine K_block ?_
    refine K_loopD (G := Nat × View) [7, 8, 22, 23, 24, 25, 26, 27, 28, 29, 30, 31, 32, 33, 34, 35, 36, 37, 38, 39, 40, 41, 42, 43, 44, 45] (fun g => [(22, .int .i64 (g.1 : Int))]) (fun hl g => (hl.set 0 (blk b19 (.cells (mkL (gN (normA (trimA a)).rules (normA (trimA a)).states.toNat g.1)) T4 (0, 0))))) (fun g => g.2) (fun g => (g.1 ≤ (normA (trimA a)).states.toNat) ∧ (VLe V2 g.2)) (fun g => (normA (trimA a)).states.toNat - g.1) (0, V2) ⟨Nat.zero_le _, VLe.refl _⟩ ⟨rfl, trivial⟩ (by simp only [args0, Nat.reduceAdd, del, memN, beqN, Nat.reduceBEq, cond_true, cond_false]; rfl) rfl rfl ?_
    rintro ⟨i, V⟩ ⟨hi0, hV⟩
    dsimp only at hi0 hV
    dsimp only [List.set, List.cons_append, List.nil_append]
    refine K_seq ?_
    refine K_region ?_
    refine KV (R_cmp rfl rfl rfl) rfl ?_
    refine K_nil ?_
    refine Q_then ?_
    refine K_seq ?_
    refine K_if rfl (fun h23 => ?_) (fun h23 => ?_)
    ·
      have hi' : i < (normA (trimA a)).states.toNat := by omega
      refine K_skip ?_
      refine Q_then ?_
      refine K_seq ?_
      refine K_block ?_
      refine K_seq ?_
      refine K_region ?_
      refine KV (R_fieldAddr 1 fd50_1 rfl) rfl ?_
      refine KV (R_loadO ty3 1 rfl rfl rfl rfl (fun _ => rfl) rfl) rfl ?_
      refine KV (R_move rfl) rfl ?_
      refine K_nil ?_
      refine Q_then ?_
      refine K_block ?_
      refine K_loopD (G := Nat × View) [7, 8, 26, 27, 28, 29, 30, 31, 32, 33, 34, 35, 36, 37, 38, 39, 40, 41, 42, 43, 44] (fun g => [(26, .int .i64 (g.1 : Int))]) (fun hl g => (hl.set 0 (blk b19 (.cells (mkL (gAt (normA (trimA a)).rules (gN (normA (trimA a)).rules (normA (trimA a)).states.toNat i) g.1)) T4 (0, 0))))) (fun g => g.2) (fun g => (g.1 ≤ (normA (trimA a)).states.toNat) ∧ (VLe V2 g.2)) (fun g => (normA (trimA a)).states.toNat - g.1) (0, V) ⟨Nat.zero_le _, hV⟩ ⟨rfl, trivial⟩ (by simp only [args0, Nat.reduceAdd, del, memN, beqN, Nat.reduceBEq, cond_true, cond_false]; rfl) rfl rfl ?_
      rintro ⟨k, Vk⟩ ⟨hk0, hVk⟩
      dsimp only at hk0 hVk
      dsimp only [List.set, List.cons_append, List.nil_append]
      have hV := hVk
      refine K_seq ?_
      refine K_region ?_
      refine KV (R_cmp rfl rfl rfl) rfl ?_
      refine K_nil ?_
      refine Q_then ?_
      refine K_seq ?_
      refine K_if rfl (fun h27 => ?_) (fun h27 => ?_)
      ·
        have hk' : k < (normA (trimA a)).states.toNat := by omega
        refine K_skip ?_
        refine Q_then ?_
        refine K_seq ?_
        refine K_block ?_
        refine K_seq ?_
        refine K_region ?_
        refine KV (R_move rfl) rfl ?_
        refine KA (A_alloc z3) rfl fun b7 => ?_
        refine K_store ty3 0 rfl rfl rfl rfl rfl rfl ?_
        refine K_nil ?_
        refine Q_then ?_
        refine K_seq ?_
        refine KC_front 0 rfl ?_
        try dsimp only [List.eraseIdx]
        refine KC_pubF fun V7 hv7 hb7 => ?_
        skip
        have hA7 : At V7 b7 0 [.int .i64 (k : Int)] := At.of hb7
        have hgl : (gAt (normA (trimA a)).rules (gN (normA (trimA a)).rules (normA (trimA a)).states.toNat i) k).length = (normA (trimA a)).states.toNat := by rw [gAt_len, gN_len]
        refine K_region ?_
        refine KV (R_fieldAddr 2 fd50_2 rfl) rfl ?_
        refine KV (R_loadO ty48 1 rfl rfl rfl rfl (fun _ => rfl) rfl) rfl ?_
        refine KV (R_makeFunc rfl rfl) rfl ?_
        refine KO_sel [0, 0, 0] rfl ?_
        refine K_callO (first := []) [_] _ (List.Perm.refl _) c2170 rfl rfl rfl (Sat.lend (blk b19 (.cells (mkL (gAt (normA (trimA a)).rules (gN (normA (trimA a)).rules (normA (trimA a)).states.toNat i) k)) T4 (0, 0))) fun H2 hle hh => rlcon_spec F2171 [ptr b7, ptr b6] (fun r => decide (r.to = (k : Int)) && r.args.any fun q => !onL (gAt (normA (trimA a)).rules (gN (normA (trimA a)).rules (normA (trimA a)).states.toNat i) k) q) (normA (trimA a)).rules _ H2 (hN.mono (hv2.trans (hV.trans (hv7.trans hle)))).rules (by omega) c2171 (fun r va V3 hr hV3 hrv => fin1_spec (gAt (normA (trimA a)).rules (gN (normA (trimA a)).rules (normA (trimA a)).states.toNat i) k) b7 b6 b19 (k : Int) r va V3 (by omega) (hA7.mono (hle.trans hV3)) (by rw [hgl]; exact hA6.mono (hV.trans (hv7.trans (hle.trans hV3)))) ((At.of hh).mono hV3) hrv (fun q hq => by have := (hokT.ru r hr).2.2.2.1 q hq; omega))) ?_
        rintro _ V8 q32 hv8 ⟨rfl, rfl, rfl⟩
        dsimp only [List.cons_append, List.nil_append]
        refine KV (R_assign rfl) rfl ?_
        refine K_nil ?_
        refine Q_then ?_
        refine K_regionD (fin := true) (R := [0, 1, 2, 3, 4, 5, 6, 7, 8, 9, 10, 11]) (by kernel_rfl) mixed (.cons_cons _ (.cons_cons _ (.cons_cons _ (List.nil_sublist _)))) ?_
        refine D_val rfl rfl rfl (R_loadH ty52 rfl (hA6.mono (hV.trans hv7)) rfl (fun _ => rfl) rfl) ?_
        refine D_val rfl rfl rfl (R_loadH ty3 rfl (hA7) rfl (fun _ => rfl) rfl) ?_
        refine D_val rfl rfl rfl (R_loadH ty52 rfl (hA6.mono (hV.trans hv7)) rfl (fun _ => rfl) rfl) ?_
        refine D_val rfl rfl rfl (R_loadH ty3 rfl (hA7) rfl (fun _ => rfl) rfl) ?_
        refine D_val rfl rfl rfl (R_index sl52 ty4 rfl rfl ⟨by omega, by omega⟩) ?_
        refine D_val rfl rfl rfl (R_loadC ty4 0 rfl rfl (mkL_get (q := (k : Int)) (by omega) (by omega))) ?_
        refine D_val rfl rfl rfl (R_move rfl) ?_
        refine D_splitB ?_ ?_
        ·
          intro h39
          refine D_skip rfl rfl ?_
          refine D_skip rfl rfl ?_
          refine D_val rfl rfl rfl (R_pickT rfl rfl) ?_
          refine D_val rfl rfl rfl (R_index sl52 ty4 rfl rfl ⟨by omega, by omega⟩) ?_
          refine D_lastStoreE ty4 0 rfl rfl rfl rfl rfl rfl (by rw [mkL_size]; show _ + 1 ≤ _; omega) rfl (mkL_putv (i := k) (by rw [hgl]; exact hk') (by omega)) ?_
          refine Q_block ?_
          refine Q_then ?_
          refine K_region ?_
          refine KV (R_add rfl rfl (by omega)) rfl ?_
          refine KV (R_move rfl) rfl ?_
          refine K_nil ?_
          refine Q_nextD (k + 1, V8) ⟨hk', hV.trans (hv7.trans hv8)⟩ (by (try dsimp only); omega) ⟨rfl, trivial⟩ rfl (by dsimp only [List.set]; rw [gAt_succ, goneS, h39, Bool.true_or]; first | done | rfl) rfl
        ·
          intro h39
          refine D_val rfl rfl rfl (R_move rfl) ?_
          refine D_val rfl rfl rfl (R_not rfl) ?_
          refine D_val rfl rfl rfl (R_pickF rfl rfl) ?_
          refine D_val rfl rfl rfl (R_index sl52 ty4 rfl rfl ⟨by omega, by omega⟩) ?_
          refine D_lastStoreE ty4 0 rfl rfl rfl rfl rfl rfl (by rw [mkL_size]; show _ + 1 ≤ _; omega) rfl (mkL_putv (i := k) (by rw [hgl]; exact hk') (by omega)) ?_
          refine Q_block ?_
          refine Q_then ?_
          refine K_region ?_
          refine KV (R_add rfl rfl (by omega)) rfl ?_
          refine KV (R_move rfl) rfl ?_
          refine K_nil ?_
          refine Q_nextD (k + 1, V8) ⟨hk', hV.trans (hv7.trans hv8)⟩ (by (try dsimp only); omega) ⟨rfl, trivial⟩ rfl (by dsimp only [List.set]; rw [gAt_succ, goneS, h39, Bool.false_or]; first | done | rfl) rfl
      ·
        have hk' : k = (normA (trimA a)).states.toNat := by omega
        subst hk'
        refine K_exit ?_
        refine Q_then_exit ?_
        refine Q_then_exit ?_
        refine Q_block_exit ?_
        refine Q_block ?_
        refine Q_then ?_
        refine K_region ?_
        refine KV (R_add rfl rfl (by omega)) rfl ?_
        refine KV (R_move rfl) rfl ?_
        refine K_nil ?_
        refine Q_nextD (i + 1, Vk) ⟨hi', hVk⟩ (by (try dsimp only); omega) ⟨rfl, trivial⟩ rfl rfl rfl
    ·
      have hi' : i = (normA (trimA a)).states.toNat := by omega
      subst hi'
      refine K_exit ?_
      refine Q_then_exit ?_
      refine Q_then_exit ?_
      refine Q_block_exit ?_
      refine Q_then ?_
      refine K_seq ?_
      refine K_region ?_
      refine KV (R_loadH ty52 rfl (hA6.mono hV) rfl (fun _ => rfl) rfl) rfl ?_
      refine KO_sel [0, 0, 0] rfl ?_
      refine K_callO (first := []) [_] _ (List.Perm.refl _) c2173 rfl rfl rfl (Sat.lend (blk b19 (.cells (mkL (gN (normA (trimA a)).rules (normA (trimA a)).states.toNat (normA (trimA a)).states.toNat)) T4 (0, 0))) fun H2 hle hh => by have e := bcon_spec false (gN (normA (trimA a)).rules (normA (trimA a)).states.toNat (normA (trimA a)).states.toNat) b19 H2 (by rw [gN_len]; omega) (At.of hh); rw [gN_len] at e; exact e) ?_
      rintro _ V8 q47 hv8 ⟨rfl, rfl, rfl⟩
      dsimp only [List.cons_append, List.nil_append]
      refine KV (R_not rfl) rfl ?_
      refine KV (R_assign rfl) rfl ?_
      refine KV (R_assign rfl) rfl ?_
      refine K_nil ?_
      refine Q_then ?_
      refine K_ret ?_
      refine results_gen (rs := [.tmp 2, .tmp 3]) (vs := [_, _]) rfl ⟨rfl, ⟨rfl, trivial⟩⟩ ?_
      rw [if_pos hae, hae]
      rfl
end Go.Proofs.X

namespace Go.Proofs.X
open Go Pal Go.Proofs
attribute [local irreducible] Pal.KO Pal.KC Pal.KQ Pal.KD
theorem ty2035 : Ty Tryz.prog T2035 false 1 := .of (by kernel_rfl)
theorem ty2143 : Ty Tryz.prog T2143 false 1 := .of (by kernel_rfl)
theorem sl2143 : slcOk Tryz.prog T2143 T2035 := by unfold slcOk; kernel_rfl
theorem c63 : callable Tryz.prog F63 = true := by kernel_rfl
theorem c91 : callable Tryz.prog F91 = true := by kernel_rfl
theorem c2035 : callable Tryz.prog F2035 = true := by kernel_rfl
theorem c2175 : callable Tryz.prog F2175 = true := by kernel_rfl
theorem c2189 : callable Tryz.prog F2189 = true := by kernel_rfl
theorem mt2035 : Tryz.prog.underlying T2035 = some (.map T3 T2009) := by kernel_rfl
theorem step0_spec (d : Dt) (hok : DtOk d) (hb : d.ranks.length ≤ 1048576 ∧ d.acc.length ≤ 1048576 ∧ d.to.length ≤ 1048576 ∧ ∀ x ∈ d.to, x.length ≤ 1048576) (sym : Nat) (hs : sym < d.ranks.length) (hr0 : d.ranks.getD sym 0 = 0) (v1 v2 v3 : Value) (H : View) (hd : RepDt H d v1 v2 v3) : Sat Tryz.prog F2175 #[.agg #[v1, v2, v3], .int .i64 (sym : Int), .slice none 0 0] H (fun r _ => r = .tuple #[.int .i64 (atM d (sym : Int) []), .int .i64 0]) := by
  obtain ⟨ua1, uc1x, rfl⟩ := hd.r.shape
  obtain ⟨ua2, uc2x, rfl⟩ := hd.a.shape
  obtain ⟨ua3, uc3x, rfl⟩ := hd.t.shape
  have hde := hok.err
  have hge : d.ranks.getD sym 0 = d.ranks[sym] := by simp [List.getD, hs]
  obtain ⟨kb, ko, hke, hkx⟩ := hd.r.get hs
  cases hke
  refine enterO (n := 41) (args := [.agg #[.slice (some ⟨kb, ko, none⟩) d.ranks.length uc1x, .slice ua2 d.acc.length uc2x, .slice ua3 d.to.length uc3x], .int .i64 (sym : Int), .slice none 0 0]) Tryz.func53 rfl rfl rfl fun w0 => ?_
  refine K_seq ?_
  refine K_region ?_
  refine KA (A_box rfl) rfl fun b3 => ?_
  refine KV (R_assign rfl) rfl ?_
  refine KV (R_assign rfl) rfl ?_
  refine K_nil ?_
  refine Q_then ?_
  refine K_seq ?_
  refine K_seq ?_
  refine K_region ?_
  refine KV (R_loadW ty54 0 rfl rfl rfl rfl) rfl ?_
  refine K_call c63 rfl rfl (dcheck_spec d _ _ _ H hd hb) ?_
  rintro _ V1 hv1 rfl
  refine KV (R_assign rfl) rfl ?_
  refine K_nil ?_
  refine Q_then ?_
  refine K_seq ?_
  refine K_region ?_
  refine KV (R_move rfl) rfl ?_
  refine KV (R_cmp rfl rfl rfl) rfl ?_
  refine K_nil ?_
  refine Q_then ?_
  refine K_if rfl (fun h12 => ?_) (fun h12 => ?_)
  ·
    exact absurd hde h12
  ·
    refine K_skip ?_
    refine Q_then ?_
    refine K_seq ?_
    refine K_block ?_
    refine K_seq ?_
    refine K_region ?_
    refine KV (R_move rfl) rfl ?_
    refine KV (R_cmp rfl rfl rfl) rfl ?_
    refine KV (R_move rfl) rfl ?_
    refine K_split ?_ ?_
    ·
      intro h17
      exact absurd h17 (by omega)
    ·
      intro h17
      refine K_gyes rfl rfl ?_
      refine KV (R_move rfl) rfl ?_
      refine K_gyes rfl rfl ?_
      refine KV (R_fieldAddr 0 fd54_0 rfl) rfl ?_
      refine K_gyes rfl rfl ?_
      refine KV (R_loadO ty47 0 rfl rfl rfl rfl (fun _ => rfl) rfl) rfl ?_
      refine K_gyes rfl rfl ?_
      refine KV (R_len sl47 rfl) rfl ?_
      refine K_gyes rfl rfl ?_
      refine KV (R_cmp rfl rfl rfl) rfl ?_
      refine KV (R_pickF rfl rfl) rfl ?_
      refine KV (R_assign rfl) rfl ?_
      refine K_nil ?_
      refine Q_then ?_
      refine K_if rfl (fun h14 => ?_) (fun h14 => ?_)
      ·
        exact absurd h14 (by omega)
      ·
        refine K_seq ?_
        refine K_region ?_
        refine KV (R_move rfl) rfl ?_
        refine KV (R_len sl25 rfl) rfl ?_
        refine KV (R_fieldAddr 0 fd54_0 rfl) rfl ?_
        refine KV (R_loadO ty47 0 rfl rfl rfl rfl (fun _ => rfl) rfl) rfl ?_
        refine KV (R_move rfl) rfl ?_
        refine KV (R_index sl47 ty3 rfl rfl ⟨by omega, by omega⟩) rfl ?_
        refine KV (R_loadH ty3 rfl (hkx.mono hv1) rfl (fun _ => rfl) rfl) rfl ?_
        refine KV (R_cmp rfl rfl rfl) rfl ?_
        refine KV (R_assign rfl) rfl ?_
        refine K_nil ?_
        refine Q_then ?_
        refine K_if rfl (fun h24 => ?_) (fun h24 => ?_)
        ·
          exact absurd h24 (by omega)
        ·
          refine K_seq ?_
          refine K_region ?_
          refine KV (R_move rfl) rfl ?_
          refine KV (R_makeFunc rfl rfl) rfl ?_
          refine K_call c86 rfl rfl (sicon_spec F2189 [ptr b3] (fun _ => false) [] _ V1 ⟨⟨none, 0, rfl, .inl ⟨rfl, rfl⟩⟩, by simp⟩ (by simp) c2189 (fun x V hx => by cases hx)) ?_
          rintro _ V2 hv2 rfl
          refine KV (R_assign rfl) rfl ?_
          refine K_nil ?_
          refine Q_then ?_
          refine K_ifB rfl (fun h33 => ?_) (fun h33 => ?_)
          ·
            cases h33
          ·
            refine K_skip ?_
            refine Q_block ?_
            refine Q_then ?_
            refine K_seq ?_
            refine K_region ?_
            refine KV (R_loadW ty54 0 rfl rfl rfl rfl) rfl ?_
            refine KV (R_move rfl) rfl ?_
            refine KV (R_move rfl) rfl ?_
            refine K_call c91 rfl rfl (at_spec d hok (sym : Int) [] _ _ _ _ V2 (hd.mono (hv1.trans hv2)) ⟨⟨none, 0, rfl, .inl ⟨rfl, rfl⟩⟩, by simp⟩ ⟨by omega, by omega⟩ (by rw [Int.toNat_natCast, hr0]; rfl) (fun x hx => by cases hx)) ?_
            rintro _ V3 hv3 rfl
            refine KV (R_assign rfl) rfl ?_
            refine KV (R_assign rfl) rfl ?_
            refine K_nil ?_
            refine Q_then ?_
            refine K_ret ?_
            refine results_gen (rs := [.tmp 6, .tmp 7]) (vs := [_, _]) rfl ⟨rfl, ⟨rfl, trivial⟩⟩ ?_
            rfl

theorem put1_spec (d : Dt) (hok : DtOk d) (hb : d.ranks.length ≤ 1048576 ∧ d.acc.length ≤ 1048576 ∧ d.to.length ≤ 1048576 ∧ ∀ x ∈ d.to, x.length ≤ 1048576) (sym : Nat) (hs : sym < d.ranks.length) (hr0 : d.ranks.getD sym 0 = 0) (v1 v2 v3 : Value) (H : View) (hd : RepDt H d v1 v2 v3) (p5 p6 p9 p8 bm cm size : Nat) (ms : List Value) (cur : KVs) (p0 : Int → Nat) (hA5 : At H p5 0 [v1, v2, v3]) (hA6 : At H p6 0 [.int .i64 (sym : Int)]) (hA9 : At H p9 0 [slc ms.length bm]) (hA8 : At H p8 0 [.int .i64 (size : Int)])
    (hml : ms.length ≤ 65) (hms : ms[size]? = some (mp cm)) (hC : CntM H d.acc.length cur p0) (hp0 : ∀ q, p0 q < bigN) (xa : Option Addr) (xk xc : Nat) (hone : RepN H (.slice xa xk xc) 1) :
    SatO Tryz.prog F2174 ([] ++ [Value.agg #[.slice xa xk xc], .slice none 0 0] ++ [ptr p5, ptr p6, ptr p9, ptr p8]).toArray H [blk bm (.cells ms.toArray T2035 (0, 0)), blk cm (mapOb cur)] (fun _ H' q => ∃ cur', q = [blk bm (.cells ms.toArray T2035 (0, 0)), blk cm (mapOb cur')] ∧ CntM H' d.acc.length cur' (fun q => p0 q + if atM d (sym : Int) [] = q then 1 else 0)) := by
  obtain ⟨ua1, uc1x, rfl⟩ := hd.r.shape
  obtain ⟨ua2, uc2x, rfl⟩ := hd.a.shape
  obtain ⟨ua3, uc3x, rfl⟩ := hd.t.shape
  have hsz : size < ms.length := (List.getElem?_eq_some_iff.1 hms).1
  obtain ⟨g1, g2, g3, g4⟩ := hok.at_ok (s := (sym : Int)) (l := []) ⟨by omega, by omega⟩ (by rw [Int.toNat_natCast, hr0]; rfl) (fun x hx => by cases hx)
  obtain ⟨oa, ok, oc, hov, hoN⟩ := (hC.2.2.1 (atM d (sym : Int) [])).one
  refine enterO (n := 30) (args := [.agg #[.slice xa xk xc], .slice none 0 0, ptr p5, ptr p6, ptr p9, ptr p8]) Tryz.func52 rfl rfl rfl fun w0 => ?_
  refine K_seq ?_
  refine K_region ?_
  refine KA (A_box rfl) rfl fun b6 => ?_
  refine K_nil ?_
  refine Q_then ?_
  refine K_seq ?_
  refine K_region ?_
  refine KV (R_loadH ty54 rfl (hA5) rfl (fun e => by cases e) rfl) rfl ?_
  refine KV (R_loadH ty3 rfl (hA6) rfl (fun _ => rfl) rfl) rfl ?_
  refine KV (R_move rfl) rfl ?_
  refine K_call c2175 rfl rfl (step0_spec d hok hb sym hs hr0 _ _ _ H hd) ?_
  rintro _ V1 hv1 rfl
  refine KV (R_move rfl) rfl ?_
  refine KV (R_extract rfl rfl) rfl ?_
  refine KV (R_extract rfl rfl) rfl ?_
  refine KV (R_assign rfl) rfl ?_
  refine KV (R_assign rfl) rfl ?_
  refine K_nil ?_
  refine Q_then ?_
  refine K_regionD (fin := true) (R := [0, 1, 2, 3, 4, 5, 6, 7, 8, 9, 10, 11, 12, 13]) (by kernel_rfl) mixed (.cons_cons _ (.cons_cons _ (.cons_cons _ (List.nil_sublist _)))) ?_
  refine D_val rfl rfl rfl (R_loadH ty2143 rfl (hA9.mono hv1) rfl (fun _ => rfl) rfl) ?_
  refine D_val rfl rfl rfl (R_loadH ty3 rfl (hA8.mono hv1) rfl (fun _ => rfl) rfl) ?_
  refine D_val rfl rfl rfl (R_index sl2143 ty2035 rfl rfl ⟨by omega, by omega⟩) ?_
  refine D_val rfl rfl rfl (R_loadC ty2035 1 rfl rfl (msGet hms (by omega))) ?_
  refine D_val rfl rfl rfl (R_move rfl) ?_
  refine D_val rfl rfl rfl (R_loadH ty2143 rfl (hA9.mono hv1) rfl (fun _ => rfl) rfl) ?_
  refine D_val rfl rfl rfl (R_loadH ty3 rfl (hA8.mono hv1) rfl (fun _ => rfl) rfl) ?_
  refine D_val rfl rfl rfl (R_index sl2143 ty2035 rfl rfl ⟨by omega, by omega⟩) ?_
  refine D_val rfl rfl rfl (R_loadC ty2035 1 rfl rfl (msGet hms (by omega))) ?_
  refine D_val rfl rfl rfl (R_move rfl) ?_
  refine D_val rfl rfl rfl (R_lookV mt2035 (by kernel_rfl) z2009 rfl rfl (MapAt.at 2 rfl) (hov)) ?_
  refine D_val rfl rfl rfl (R_loadW ty2009 0 rfl rfl rfl rfl) ?_
  refine D_call rfl rfl c2035 rfl ⟨⟨0, rfl⟩, ⟨1, rfl⟩, ⟨2, rfl⟩, trivial⟩ (addNN_spec (p0 (atM d (sym : Int) [])) 1 _ _ V1 (hoN.mono hv1) (hone.mono hv1) (hp0 _) (one_big)) ?_
  rintro _ V2 hv2 ⟨ra, rk, rc, rfl, hR⟩
  refine D_lastSet mt2035 (by kernel_rfl) 2 rfl rfl rfl rfl rfl rfl ?_
  refine Q_fall ?_
  refine results_sel [1, 1] rfl (rs := []) (vs := []) rfl trivial ?_
  refine ⟨setI cur (atM d (sym : Int) []) (.agg #[.slice ra rk rc]), rfl, ?_⟩
  exact (hC.mono (hv1.trans hv2)).add ⟨g3, g4⟩ ⟨ra, rk, rc, rfl, hR⟩ fun p => rfl
end Go.Proofs.X

namespace Go.Proofs.X
open Go Pal Go.Proofs
attribute [local irreducible] Pal.KO Pal.KC Pal.KQ Pal.KD
theorem c2019 : callable Tryz.prog F2019 = true := by kernel_rfl
theorem c2036 : callable Tryz.prog F2036 = true := by kernel_rfl
theorem c2174 : callable Tryz.prog F2174 = true := by kernel_rfl
set_option maxHeartbeats 2000000 in
theorem count_spec (d : Dt) (hok : DtOk d) (hb : d.ranks.length ≤ 1048576 ∧ d.acc.length ≤ 1048576 ∧ d.to.length ≤ 1048576 ∧ ∀ x ∈ d.to, x.length ≤ 1048576) (h8 : d.ranks.length ≤ 8) (hn8 : d.acc.length ≤ 8) (sym : Nat) (hs : sym < d.ranks.length) (v1 v2 v3 : Value) (H : View) (hd : RepDt H d v1 v2 v3) (bm cm size : Nat) (ms : List Value) (cur : KVs) (p0 : Int → Nat)
    (hml : ms.length ≤ 65) (hms : ms[size]? = some (mp cm)) (hprev : ∀ i, i < size → ∃ mb kvs, ms[i]? = some (mp mb) ∧ H mb = some (mapOb kvs) ∧ CntM H d.acc.length kvs (cD d i)) (hC : CntM H d.acc.length cur p0) (hp0 : ∀ q, p0 q ≤ 32768 ^ size) :
    SatO Tryz.prog F2156 #[.agg #[v1, v2, v3], .int .i64 (sym : Int), .int .i64 d.ranks[sym], .int .i64 (size : Int), slc ms.length bm] H [blk bm (.cells ms.toArray T2035 (0, 0)), blk cm (mapOb cur)] (fun _ H' q => ∃ cur', q = [blk bm (.cells ms.toArray T2035 (0, 0)), blk cm (mapOb cur')] ∧ CntM H' d.acc.length cur' (fun q => p0 q + termD d (cD d) sym size q)) := by
  obtain ⟨ua1, uc1x, rfl⟩ := hd.r.shape
  obtain ⟨ua2, uc2x, rfl⟩ := hd.a.shape
  obtain ⟨ua3, uc3x, rfl⟩ := hd.t.shape
  have hsz : size < ms.length := (List.getElem?_eq_some_iff.1 hms).1
  have hge : d.ranks.getD sym 0 = d.ranks[sym] := by simp [List.getD, hs]
  have hrk := (ranksErr_ok hok.rk).2 sym hs
  have h64 : size ≤ 64 := by omega
  refine enterO (n := 132) (args := [.agg #[.slice ua1 d.ranks.length uc1x, .slice ua2 d.acc.length uc2x, .slice ua3 d.to.length uc3x], .int .i64 (sym : Int), .int .i64 d.ranks[sym], .int .i64 (size : Int), slc ms.length bm]) Tryz.func22 rfl rfl rfl fun w0 => ?_
  refine K_seq ?_
  refine K_region ?_
  refine KA (A_box rfl) rfl fun b5 => ?_
  refine KA (A_box rfl) rfl fun b6 => ?_
  refine KA (A_box rfl) rfl fun b8 => ?_
  refine KA (A_box rfl) rfl fun b9 => ?_
  refine K_nil ?_
  refine KQ_front 0 rfl ?_
  try dsimp only [List.eraseIdx]
  refine KQ_pubF fun Ub9 hub9 hb9 => ?_
  skip
  refine KQ_front 0 rfl ?_
  try dsimp only [List.eraseIdx]
  refine KQ_pubF fun Ub8 hub8 hb8 => ?_
  skip
  refine KQ_front 0 rfl ?_
  try dsimp only [List.eraseIdx]
  refine KQ_pubF fun Ub6 hub6 hb6 => ?_
  skip
  refine KQ_front 0 rfl ?_
  try dsimp only [List.eraseIdx]
  refine KQ_pubF fun Ub5 hub5 hb5 => ?_
  skip
  have hvU := hub9.trans (hub8.trans (hub6.trans hub5))
  have hA9 : At Ub5 b9 0 [slc ms.length bm] := (At.of hb9).mono (hub8.trans (hub6.trans hub5))
  have hA8 : At Ub5 b8 0 [.int .i64 (size : Int)] := (At.of hb8).mono (hub6.trans hub5)
  have hA6 : At Ub5 b6 0 [.int .i64 (sym : Int)] := (At.of hb6).mono hub5
  have hA5 : At Ub5 b5 0 [.slice ua1 d.ranks.length uc1x, .slice ua2 d.acc.length uc2x, .slice ua3 d.to.length uc3x] := At.of hb5
  have hA51 := hA5.one (j := 1) rfl
  have hA52 := hA5.one (j := 2) rfl
  have hd := hd.mono hvU
  have hC := hC.mono hvU
  have hprev : ∀ i, i < size → ∃ mb kvs, ms[i]? = some (mp mb) ∧ Ub5 mb = some (mapOb kvs) ∧ CntM Ub5 d.acc.length kvs (cD d i) := fun i hi => by
    obtain ⟨mb, kvs, e1, e2, e3⟩ := hprev i hi
    exact ⟨mb, kvs, e1, hvU _ _ e2, e3.mono hvU⟩
  refine Q_then ?_
  refine K_seq ?_
  refine K_region ?_
  refine KV (R_makeFunc rfl rfl) rfl ?_
  refine KV (R_assign rfl) rfl ?_
  refine K_nil ?_
  refine Q_then ?_
  refine K_seq ?_
  refine K_region ?_
  refine KV (R_fieldAddr 1 fd54_1 rfl) rfl ?_
  refine KV (R_loadH ty52 rfl (hA51) rfl (fun _ => rfl) rfl) rfl ?_
  refine KV (R_len sl52 rfl) rfl ?_
  refine KV (R_assign rfl) rfl ?_
  refine K_nil ?_
  refine Q_then ?_
  refine K_block ?_
  refine K_seq ?_
  refine K_region ?_
  refine KV (R_loadH ty3 rfl (hA8) rfl (fun _ => rfl) rfl) rfl ?_
  refine KV (R_cmp rfl rfl rfl) rfl ?_
  refine KV (R_assign rfl) rfl ?_
  refine K_nil ?_
  refine Q_then ?_
  refine K_if rfl (fun h80 => ?_) (fun h80 => ?_)
  ·
    refine K_skip ?_
    refine Q_block ?_
    refine Q_fall ?_
    refine results_sel [0, 0] rfl (rs := []) (vs := []) rfl trivial ?_
    exact ⟨cur, rfl, hC.congr fun q => by unfold termD; rw [if_pos (by omega)]; rfl⟩
  ·
    refine K_seq ?_
    refine K_region ?_
    refine KV (R_move rfl) rfl ?_
    refine KV (R_cmp rfl rfl rfl) rfl ?_
    refine KV (R_assign rfl) rfl ?_
    refine K_nil ?_
    refine Q_then ?_
    refine K_if rfl (fun h83 => ?_) (fun h83 => ?_)
    ·
      have h84 : d.ranks[sym] = 0 := h83
      refine K_seq ?_
      refine K_region ?_
      refine KV (R_loadH ty3 rfl (hA8) rfl (fun _ => rfl) rfl) rfl ?_
      refine KV (R_cmp rfl rfl rfl) rfl ?_
      refine K_nil ?_
      refine Q_then ?_
      refine K_if rfl (fun h87 => ?_) (fun h87 => ?_)
      ·
        refine K_region ?_
        refine KV (R_move rfl) rfl ?_
        refine K_call c2019 rfl rfl (fromU_spec 1 (by decide) Ub5) ?_
        rintro _ V1 hv1 ⟨na, nk, nc, rfl, hN1⟩
        refine KO_sel [0, 0] rfl ?_
        refine K_callO (first := []) [_, _] [] (List.Perm.refl _) c2174 rfl rfl rfl (put1_spec d hok hb sym hs (hge.trans h84) _ _ _ V1 (hd.mono hv1) b5 b6 b9 b8 bm cm size ms cur p0 (hA5.mono hv1) (hA6.mono hv1) (hA9.mono hv1) (hA8.mono hv1) hml hms (hC.mono hv1) (fun q => Nat.lt_of_le_of_lt (hp0 q) (by have := pow_big2 (K := 1) h64 (by decide); omega)) na nk nc hN1) ?_
        rintro _ V2 q hv2 ⟨cur', rfl, hC2⟩
        dsimp only [List.cons_append, List.nil_append]
        refine K_nil ?_
        refine Q_block ?_
        refine Q_fall ?_
        refine results_sel [0, 0] rfl (rs := []) (vs := []) rfl trivial ?_
        have h1 : size = 1 := by omega
        subst h1
        exact ⟨cur', rfl, hC2.congr fun q => by unfold termD; rw [if_neg Nat.one_ne_zero, if_pos (hge.trans h84), if_pos rfl]⟩
      ·
        refine K_skip ?_
        refine Q_block ?_
        refine Q_fall ?_
        refine results_sel [0, 0] rfl (rs := []) (vs := []) rfl trivial ?_
        exact ⟨cur, rfl, hC.congr fun q => by unfold termD; rw [if_neg (by omega), if_pos (hge.trans h84), if_neg (by omega)]; rfl⟩
    ·
      have h84 : ¬ d.ranks[sym] = 0 := h83
      refine K_seq ?_
      refine K_region ?_
      refine KV (R_move rfl) rfl ?_
      refine KV (R_cmp rfl rfl rfl) rfl ?_
      refine KV (R_assign rfl) rfl ?_
      refine K_nil ?_
      refine Q_then ?_
      refine K_if rfl (fun h91 => ?_) (fun h91 => ?_)
      ·
        have h92 : d.ranks[sym] = 1 := h91
        refine K_seq ?_
        obtain ⟨mA, kvA, hmA, hbA, hCA⟩ := hprev (size - 1) (by omega)
        refine K_region ?_
        refine KV (R_loadH ty2143 rfl (hA9) rfl (fun _ => rfl) rfl) rfl ?_
        refine KV (R_loadH ty3 rfl (hA8) rfl (fun _ => rfl) rfl) rfl ?_
        refine KV (R_sub rfl rfl (by omega)) rfl ?_
        refine KV (R_index sl2143 ty2035 rfl rfl ⟨by omega, by omega⟩) rfl ?_
        refine KV (R_loadC ty2035 0 rfl rfl (msGet hmA (by omega))) rfl ?_
        refine K_range mt2035 rfl (.inl (hbA)) rfl fun b99 => ?_
        refine K_nil ?_
        refine Q_then ?_
        refine K_block ?_
        refine K_loopD (G := List Nat × View × KVs) [12, 13, 100, 101, 102, 103, 104, 105, 106, 107, 108, 109, 110, 111, 112, 113, 114, 115, 116, 117, 118, 119, 120, 121, 122, 123, 124, 125, 126, 127, 128, 129, 130, 131] (fun g => []) (fun hl g => ((hl.set 0 (blk b99 (itO mA kvA.length g.1))).set 2 (blk cm (mapOb g.2.2)))) (fun g => g.2.1) (fun g => (g.1.Nodup) ∧ (∀ i ∈ g.1, i < kvA.length) ∧ (VLe Ub5 g.2.1) ∧ (CntM g.2.1 d.acc.length g.2.2 (add1 d sym size p0 (keysAt kvA g.1)))) (fun g => kvA.length - g.1.length) ([], Ub5, cur) ⟨List.nodup_nil, fun i hi => (by cases hi), VLe.refl _, hC.congr fun q => by simp [add1, keysAt]⟩ trivial (by simp only [args0, Nat.reduceAdd, del, memN, beqN, Nat.reduceBEq, cond_true, cond_false]; rfl) rfl rfl ?_
        rintro ⟨seenA, V, ck⟩ ⟨hsnA, hsltA, hV, hCk⟩
        dsimp only at hsnA hsltA hV hCk
        dsimp only [List.set, List.cons_append, List.nil_append]
        refine K_seq ?_
        refine K_region ?_
        refine K_next 0 rfl rfl (.inl (hV _ _ hbA)) rfl (fun hall => ?_) (fun i x u hki hni => ?_)
        ·
          have hallx := hall
          refine KV (R_extract rfl rfl) rfl ?_
          refine K_nil ?_
          refine Q_then ?_
          refine K_seq ?_
          refine K_ifF rfl ?_
          refine K_exit ?_
          refine Q_then_exit ?_
          refine Q_then_exit ?_
          refine Q_block_exit ?_
          refine Q_block ?_
          refine Q_fall ?_
          refine results_sel [1, 1] rfl (rs := []) (vs := []) rfl trivial ?_
          exact ⟨ck, rfl, hCk.congr fun q => add1_all hCA (keysAt_all hsnA hsltA hallx) (by omega) (hge.trans h92) q⟩
        ·
          obtain ⟨hndA, hltA, hleA⟩ := seen_snoc hsnA hsltA hni (List.getElem?_eq_some_iff.1 hki).1
          obtain ⟨hqA, hNA⟩ := CntM.key (hCA.mono hV) hki
          obtain ⟨nAa, nAk, nAc, rfl, hMA⟩ := hNA.one
          have hksA := keysAt_snoc (seen := seenA) hki
          have hkiA := hki
          have hklA := keysAt_le (hCA.mono hV).1 (hCA.mono hV).2.1 hsnA hsltA
          obtain ⟨t1, t2, te, tr⟩ := at_one hok hs (hge.trans h92) hqA
          obtain ⟨tb, to_, ea, ecp, hte, tA, tE⟩ := (hd.mono hV).t.get t1
          cases hte
          obtain ⟨ub, uo, hue, tB⟩ := tE.get t2
          cases hue
          rw [← te] at tB
          obtain ⟨oa, ok, oc, hov, hoN⟩ := (hCk.2.2.1 (atM d (sym : Int) [x])).one
          refine KV (R_extract rfl rfl) rfl ?_
          refine K_nil ?_
          refine Q_then ?_
          refine K_seq ?_
          refine K_ifT rfl ?_
          refine K_skip ?_
          refine Q_then ?_
          refine K_block ?_
          refine K_seq ?_
          refine K_region ?_
          refine KV (R_entry 0 rfl rfl (.inl (hV _ _ hbA)) hki) rfl ?_
          refine KV (R_extract rfl rfl) rfl ?_
          refine KV (R_extract rfl rfl) rfl ?_
          refine KA (A_alloc z2009) rfl fun b13 => ?_
          refine KV (R_assign rfl) rfl ?_
          refine K_storeW ty2009 0 rfl rfl rfl rfl rfl rfl rfl ?_
          refine K_nil ?_
          refine Q_then ?_
          refine K_regionD (fin := true) (R := [0, 1, 2, 3, 4, 5, 6, 7, 8, 9, 10, 11, 12, 13, 14, 15, 16, 17, 18, 19, 20, 21, 22, 23, 24, 25, 26, 27]) (by kernel_rfl) mixed (.cons_cons _ (.cons_cons _ (.cons_cons _ (.cons_cons _ (List.nil_sublist _))))) ?_
          refine D_val rfl rfl rfl (R_loadH ty2143 rfl (hA9.mono hV) rfl (fun _ => rfl) rfl) ?_
          refine D_val rfl rfl rfl (R_loadH ty3 rfl (hA8.mono hV) rfl (fun _ => rfl) rfl) ?_
          refine D_val rfl rfl rfl (R_index sl2143 ty2035 rfl rfl ⟨by omega, by omega⟩) ?_
          refine D_val rfl rfl rfl (R_loadC ty2035 2 rfl rfl (msGet hms (by omega))) ?_
          refine D_val rfl rfl rfl (R_fieldAddr 2 fd54_2 rfl) ?_
          refine D_val rfl rfl rfl (R_loadH ty44 rfl (hA52.mono hV) rfl (fun _ => rfl) rfl) ?_
          refine D_val rfl rfl rfl (R_loadH ty3 rfl (hA6.mono hV) rfl (fun _ => rfl) rfl) ?_
          refine D_val rfl rfl rfl (R_index sl44 ty25 rfl rfl ⟨by omega, by omega⟩) ?_
          refine D_val rfl rfl rfl (R_loadH ty25 rfl (tA) rfl (fun _ => rfl) rfl) ?_
          refine D_val rfl rfl rfl (R_move rfl) ?_
          refine D_val rfl rfl rfl (R_index sl25 ty3 rfl rfl ⟨by omega, by omega⟩) ?_
          refine D_val rfl rfl rfl (R_loadH ty3 rfl (tB) rfl (fun _ => rfl) rfl) ?_
          refine D_val rfl rfl rfl (R_loadH ty2143 rfl (hA9.mono hV) rfl (fun _ => rfl) rfl) ?_
          refine D_val rfl rfl rfl (R_loadH ty3 rfl (hA8.mono hV) rfl (fun _ => rfl) rfl) ?_
          refine D_val rfl rfl rfl (R_index sl2143 ty2035 rfl rfl ⟨by omega, by omega⟩) ?_
          refine D_val rfl rfl rfl (R_loadC ty2035 2 rfl rfl (msGet hms (by omega))) ?_
          refine D_val rfl rfl rfl (R_fieldAddr 2 fd54_2 rfl) ?_
          refine D_val rfl rfl rfl (R_loadH ty44 rfl (hA52.mono hV) rfl (fun _ => rfl) rfl) ?_
          refine D_val rfl rfl rfl (R_loadH ty3 rfl (hA6.mono hV) rfl (fun _ => rfl) rfl) ?_
          refine D_val rfl rfl rfl (R_index sl44 ty25 rfl rfl ⟨by omega, by omega⟩) ?_
          refine D_val rfl rfl rfl (R_loadH ty25 rfl (tA) rfl (fun _ => rfl) rfl) ?_
          refine D_val rfl rfl rfl (R_move rfl) ?_
          refine D_val rfl rfl rfl (R_index sl25 ty3 rfl rfl ⟨by omega, by omega⟩) ?_
          refine D_val rfl rfl rfl (R_loadH ty3 rfl (tB) rfl (fun _ => rfl) rfl) ?_
          refine D_val rfl rfl rfl (R_lookV mt2035 (by kernel_rfl) z2009 rfl rfl (MapAt.at 3 rfl) (hov)) ?_
          refine D_val rfl rfl rfl (R_loadW ty2009 0 rfl rfl rfl rfl) ?_
          refine D_call rfl rfl c2035 rfl ⟨⟨0, rfl⟩, ⟨1, rfl⟩, ⟨2, rfl⟩, ⟨3, rfl⟩, trivial⟩ (addNN_spec (add1 d sym size p0 (keysAt kvA seenA) (atM d (sym : Int) [x])) (cD d (size - 1) x) _ _ V hoN hMA (add1_big h8 hn8 h64 (hp0 _) sym (Nat.le_trans hklA hn8)) (by have := cD_big h8 hn8 (n := size - 1) (by omega) x; omega)) ?_
          rintro _ V2 hv2 ⟨ra, rk, rc, rfl, hR⟩
          refine D_lastSet mt2035 (by kernel_rfl) 3 rfl rfl rfl rfl rfl rfl ?_
          refine Q_block ?_
          refine KQ_sel [1, 1, 1] rfl ?_
          refine Q_nextD (seenA ++ [i], V2, setI ck (atM d (sym : Int) [x]) (.agg #[.slice ra rk rc])) ⟨hndA, hltA, hV.trans hv2, by rw [hksA]; exact (hCk.mono hv2).add tr ⟨ra, rk, rc, rfl, hR⟩ fun p => add1_snoc d sym size p0 _ x p⟩ (by (try dsimp only); rw [List.length_append]; simp only [List.length_cons, List.length_nil]; omega) trivial rfl rfl rfl
      ·
        have h92 : ¬ d.ranks[sym] = 1 := h91
        have hr2 : d.ranks.getD sym 0 = 2 := by omega
        refine K_seq ?_
        refine K_region ?_
        refine KV (R_assign rfl) rfl ?_
        refine K_nil ?_
        refine Q_then ?_
        refine K_block ?_
        refine K_loopD (G := Nat × View × KVs) [14, 15, 16, 17, 18, 19, 24, 25, 26, 27, 28, 29, 30, 31, 32, 33, 34, 35, 36, 37, 38, 39, 40, 41, 42, 43, 44, 45, 46, 47, 48, 49, 50, 51, 52, 53, 54, 55, 56, 57, 58, 59, 60, 61, 62, 63, 64, 65, 66, 67, 68, 69, 70, 71, 72, 73, 74, 75, 76, 77, 78, 79] (fun g => [(14, .int .i64 ((g.1 : Int) + 1))]) (fun hl g => (hl.set 1 (blk cm (mapOb g.2.2)))) (fun g => g.2.1) (fun g => (g.1 ≤ size - 2) ∧ (VLe Ub5 g.2.1) ∧ (CntM g.2.1 d.acc.length g.2.2 (add2 d sym size p0 g.1))) (fun g => size - 2 - g.1) (0, Ub5, cur) ⟨Nat.zero_le _, VLe.refl _, hC.congr fun q => by simp [add2, sumN_zero]⟩ ⟨rfl, trivial⟩ (by simp only [args0, Nat.reduceAdd, del, memN, beqN, Nat.reduceBEq, cond_true, cond_false]; rfl) rfl rfl ?_
        rintro ⟨j, V, ck⟩ ⟨hj, hV, hCk⟩
        dsimp only at hj hV hCk
        dsimp only [List.set, List.cons_append, List.nil_append]
        refine K_seq ?_
        refine K_seq ?_
        refine K_region ?_
        refine KV (R_move rfl) rfl ?_
        refine KV (R_loadH ty3 rfl (hA8.mono hV) rfl (fun _ => rfl) rfl) rfl ?_
        refine KV (R_sub rfl rfl (by omega)) rfl ?_
        refine KV (R_cmp rfl rfl rfl) rfl ?_
        refine K_nil ?_
        refine Q_then ?_
        refine K_if rfl (fun h27 => ?_) (fun h27 => ?_)
        ·
          have hj' : j + 1 ≤ size - 2 := by omega
          refine K_skip ?_
          refine Q_then ?_
          refine K_seq ?_
          refine K_block ?_
          refine K_seq ?_
          obtain ⟨mX, kvX, hmX, hbX, hCX⟩ := hprev (j + 1) (by omega)
          refine K_region ?_
          refine KV (R_loadH ty2143 rfl (hA9.mono hV) rfl (fun _ => rfl) rfl) rfl ?_
          refine KV (R_move rfl) rfl ?_
          refine KV (R_index sl2143 ty2035 rfl rfl ⟨by omega, by omega⟩) rfl ?_
          refine KV (R_loadC ty2035 0 rfl rfl (msGet hmX (by omega))) rfl ?_
          refine K_range mt2035 rfl (.inl (hV _ _ hbX)) rfl fun b34 => ?_
          refine K_nil ?_
          refine Q_then ?_
          refine K_block ?_
          refine K_loopD (G := List Nat × View × KVs) [15, 16, 17, 18, 19, 35, 36, 37, 38, 39, 40, 41, 42, 43, 44, 45, 46, 47, 48, 49, 50, 51, 52, 53, 54, 55, 56, 57, 58, 59, 60, 61, 62, 63, 64, 65, 66, 67, 68, 69, 70, 71, 72, 73, 74, 75, 76, 77, 78, 79] (fun g => []) (fun hl g => ((hl.set 0 (blk b34 (itO mX kvX.length g.1))).set 2 (blk cm (mapOb g.2.2)))) (fun g => g.2.1) (fun g => (g.1.Nodup) ∧ (∀ i ∈ g.1, i < kvX.length) ∧ (VLe Ub5 g.2.1) ∧ (CntM g.2.1 d.acc.length g.2.2 (add3 d sym size p0 j (keysAt kvX g.1)))) (fun g => kvX.length - g.1.length) ([], V, ck) ⟨List.nodup_nil, fun i hi => (by cases hi), hV, hCk.congr fun q => by simp [add3, keysAt]⟩ trivial (by simp only [args0, Nat.reduceAdd, del, memN, beqN, Nat.reduceBEq, cond_true, cond_false]; rfl) rfl rfl ?_
          rintro ⟨seenX, VX, ck⟩ ⟨hsnX, hsltX, hV, hCk⟩
          dsimp only at hsnX hsltX hV hCk
          dsimp only [List.set, List.cons_append, List.nil_append]
          refine K_seq ?_
          refine K_region ?_
          refine K_next 0 rfl rfl (.inl (hV _ _ hbX)) rfl (fun hall => ?_) (fun i x u hki hni => ?_)
          ·
            have hallx := hall
            refine KV (R_extract rfl rfl) rfl ?_
            refine K_nil ?_
            refine Q_then ?_
            refine K_seq ?_
            refine K_ifF rfl ?_
            refine K_exit ?_
            refine Q_then_exit ?_
            refine Q_then_exit ?_
            refine Q_block_exit ?_
            refine Q_block ?_
            refine Q_then ?_
            refine K_region ?_
            refine KV (R_move rfl) rfl ?_
            refine KV (R_add rfl rfl (by omega)) rfl ?_
            refine KV (R_assign rfl) rfl ?_
            refine K_nil ?_
            refine KQ_sel [1, 1] rfl ?_
            refine Q_nextD (j + 1, VX, ck) ⟨hj', hV, hCk.congr fun q => add2_succ (hCX.mono hV) (keysAt_all hsnX hsltX hallx) q⟩ (by (try dsimp only); omega) ⟨congrArg (fun z => some (Value.int .i64 z)) (by dsimp only; omega), trivial⟩ rfl rfl rfl
          ·
            obtain ⟨hndX, hltX, hleX⟩ := seen_snoc hsnX hsltX hni (List.getElem?_eq_some_iff.1 hki).1
            obtain ⟨hqX, hNX⟩ := CntM.key (hCX.mono hV) hki
            obtain ⟨nXa, nXk, nXc, rfl, hMX⟩ := hNX.one
            have hksX := keysAt_snoc (seen := seenX) hki
            have hkiX := hki
            have hklX := keysAt_le (hCX.mono hV).1 (hCX.mono hV).2.1 hsnX hsltX
            refine KV (R_extract rfl rfl) rfl ?_
            refine K_nil ?_
            refine Q_then ?_
            refine K_seq ?_
            refine K_ifT rfl ?_
            refine K_skip ?_
            refine Q_then ?_
            refine K_block ?_
            refine K_seq ?_
            refine K_region ?_
            refine KV (R_entry 0 rfl rfl (.inl (hV _ _ hbX)) hki) rfl ?_
            refine KV (R_extract rfl rfl) rfl ?_
            refine KV (R_extract rfl rfl) rfl ?_
            refine KA (A_alloc z2009) rfl fun b16 => ?_
            refine KV (R_assign rfl) rfl ?_
            refine K_storeW ty2009 0 rfl rfl rfl rfl rfl rfl rfl ?_
            refine K_nil ?_
            refine Q_then ?_
            refine K_seq ?_
            obtain ⟨mB, kvB, hmB, hbB, hCB⟩ := hprev (size - 1 - (j + 1)) (by omega)
            refine K_region ?_
            refine KV (R_loadH ty2143 rfl (hA9.mono hV) rfl (fun _ => rfl) rfl) rfl ?_
            refine KV (R_loadH ty3 rfl (hA8.mono hV) rfl (fun _ => rfl) rfl) rfl ?_
            refine KV (R_sub rfl rfl (by omega)) rfl ?_
            refine KV (R_move rfl) rfl ?_
            refine KV (R_sub rfl rfl (by omega)) rfl ?_
            refine KV (R_index sl2143 ty2035 rfl rfl ⟨by omega, by omega⟩) rfl ?_
            refine KV (R_loadC ty2035 2 rfl rfl (msGet hmB (by omega))) rfl ?_
            refine K_range mt2035 rfl (.inl (hV _ _ hbB)) rfl fun b47 => ?_
            refine K_nil ?_
            refine Q_then ?_
            refine K_block ?_
            refine K_loopD (G := List Nat × View × KVs) [17, 18, 19, 48, 49, 50, 51, 52, 53, 54, 55, 56, 57, 58, 59, 60, 61, 62, 63, 64, 65, 66, 67, 68, 69, 70, 71, 72, 73, 74, 75, 76, 77, 78, 79] (fun g => []) (fun hl g => ((hl.set 0 (blk b47 (itO mB kvB.length g.1))).set 4 (blk cm (mapOb g.2.2)))) (fun g => g.2.1) (fun g => (g.1.Nodup) ∧ (∀ i ∈ g.1, i < kvB.length) ∧ (VLe Ub5 g.2.1) ∧ (VLe VX g.2.1) ∧ (CntM g.2.1 d.acc.length g.2.2 (add4 d sym size p0 j (keysAt kvX seenX) x (keysAt kvB g.1)))) (fun g => kvB.length - g.1.length) ([], VX, ck) ⟨List.nodup_nil, fun i hi => (by cases hi), hV, VLe.refl _, hCk.congr fun q => by simp [add4, keysAt]⟩ trivial (by simp only [args0, Nat.reduceAdd, del, memN, beqN, Nat.reduceBEq, cond_true, cond_false]; rfl) rfl rfl ?_
            rintro ⟨seenB, V, ck⟩ ⟨hsnB, hsltB, hV, hV3, hCk⟩
            dsimp only at hsnB hsltB hV hV3 hCk
            dsimp only [List.set, List.cons_append, List.nil_append]
            refine K_seq ?_
            refine K_region ?_
            refine K_next 0 rfl rfl (.inl (hV _ _ hbB)) rfl (fun hall => ?_) (fun i y u hki hni => ?_)
            ·
              have hally := hall
              refine KV (R_extract rfl rfl) rfl ?_
              refine K_nil ?_
              refine Q_then ?_
              refine K_seq ?_
              refine K_ifF rfl ?_
              refine K_exit ?_
              refine Q_then_exit ?_
              refine Q_then_exit ?_
              refine Q_block_exit ?_
              refine Q_block ?_
              refine KQ_sel [2, 2, 2] rfl ?_
              refine Q_nextD (seenX ++ [i], V, ck) ⟨hndX, hltX, hV, hCk.congr fun q => by rw [hksX]; exact add3_snoc (hCB.mono hV) (keysAt_all hsnB hsltB hally) q⟩ (by (try dsimp only); rw [List.length_append]; simp only [List.length_cons, List.length_nil]; omega) trivial rfl rfl rfl
            ·
              obtain ⟨hndB, hltB, hleB⟩ := seen_snoc hsnB hsltB hni (List.getElem?_eq_some_iff.1 hki).1
              obtain ⟨hqB, hNB⟩ := CntM.key (hCB.mono hV) hki
              obtain ⟨nBa, nBk, nBc, rfl, hMB⟩ := hNB.one
              have hksB := keysAt_snoc (seen := seenB) hki
              have hkiB := hki
              have hklB := keysAt_le (hCB.mono hV).1 (hCB.mono hV).2.1 hsnB hsltB
              obtain ⟨t1, t2, te, tr, tp⟩ := at_two hok hs hr2 hqX hqB
              have hxy : x * (d.acc.length : Int) ≤ 8 * 8 := Int.mul_le_mul (by omega) (by omega) (by omega) (by decide)
              have hxy0 : 0 ≤ x * (d.acc.length : Int) := Int.mul_nonneg hqX.1 (by omega)
              obtain ⟨tb, to_, ea, ecp, hte, tA, tE⟩ := (hd.mono hV).t.get t1
              cases hte
              obtain ⟨ub, uo, hue, tB⟩ := tE.get t2
              cases hue
              rw [← te] at tB
              obtain ⟨oa, ok, oc, hov, hoN⟩ := (hCk.2.2.1 (atM d (sym : Int) [x, y])).one
              refine KV (R_extract rfl rfl) rfl ?_
              refine K_nil ?_
              refine Q_then ?_
              refine K_seq ?_
              refine K_ifT rfl ?_
              refine K_skip ?_
              refine Q_then ?_
              refine K_block ?_
              refine K_seq ?_
              refine K_region ?_
              refine KV (R_entry 0 rfl rfl (.inl (hV _ _ hbB)) hki) rfl ?_
              refine KV (R_extract rfl rfl) rfl ?_
              refine KV (R_extract rfl rfl) rfl ?_
              refine KA (A_alloc z2009) rfl fun b18 => ?_
              refine KV (R_assign rfl) rfl ?_
              refine K_storeW ty2009 0 rfl rfl rfl rfl rfl rfl rfl ?_
              refine K_nil ?_
              refine Q_then ?_
              refine K_seq ?_
              refine K_region ?_
              refine KV (R_fieldAddr 2 fd54_2 rfl) rfl ?_
              refine KV (R_loadH ty44 rfl (hA52.mono hV) rfl (fun _ => rfl) rfl) rfl ?_
              refine KV (R_loadH ty3 rfl (hA6.mono hV) rfl (fun _ => rfl) rfl) rfl ?_
              refine KV (R_index sl44 ty25 rfl rfl ⟨by omega, by omega⟩) rfl ?_
              refine KV (R_loadH ty25 rfl (tA) rfl (fun _ => rfl) rfl) rfl ?_
              refine KV (R_move rfl) rfl ?_
              refine KV (R_move rfl) rfl ?_
              refine KV (R_mul rfl rfl (by omega)) rfl ?_
              refine KV (R_move rfl) rfl ?_
              refine KV (R_add rfl rfl (by omega)) rfl ?_
              refine KV (R_index sl25 ty3 rfl rfl ⟨by omega, by omega⟩) rfl ?_
              refine KV (R_loadH ty3 rfl (tB) rfl (fun _ => rfl) rfl) rfl ?_
              refine KV (R_assign rfl) rfl ?_
              refine K_nil ?_
              refine Q_then ?_
              refine K_regionD (fin := true) (R := [0, 1, 2, 3, 4, 5, 6, 7, 8, 9, 10, 11, 12, 13, 14, 15]) (by kernel_rfl) mixed (.cons_cons _ (.cons_cons _ (.cons_cons _ (.cons_cons _ (.cons_cons _ (.cons_cons _ (List.nil_sublist _))))))) ?_
              refine D_val rfl rfl rfl (R_loadH ty2143 rfl (hA9.mono hV) rfl (fun _ => rfl) rfl) ?_
              refine D_val rfl rfl rfl (R_loadH ty3 rfl (hA8.mono hV) rfl (fun _ => rfl) rfl) ?_
              refine D_val rfl rfl rfl (R_index sl2143 ty2035 rfl rfl ⟨by omega, by omega⟩) ?_
              refine D_val rfl rfl rfl (R_loadC ty2035 4 rfl rfl (msGet hms (by omega))) ?_
              refine D_val rfl rfl rfl (R_move rfl) ?_
              refine D_val rfl rfl rfl (R_loadH ty2143 rfl (hA9.mono hV) rfl (fun _ => rfl) rfl) ?_
              refine D_val rfl rfl rfl (R_loadH ty3 rfl (hA8.mono hV) rfl (fun _ => rfl) rfl) ?_
              refine D_val rfl rfl rfl (R_index sl2143 ty2035 rfl rfl ⟨by omega, by omega⟩) ?_
              refine D_val rfl rfl rfl (R_loadC ty2035 4 rfl rfl (msGet hms (by omega))) ?_
              refine D_val rfl rfl rfl (R_move rfl) ?_
              refine D_val rfl rfl rfl (R_lookV mt2035 (by kernel_rfl) z2009 rfl rfl (MapAt.at 5 rfl) (hov)) ?_
              refine D_val rfl rfl rfl (R_loadW ty2009 2 rfl rfl rfl rfl) ?_
              refine D_val rfl rfl rfl (R_loadW ty2009 0 rfl rfl rfl rfl) ?_
              refine D_call rfl rfl c2036 rfl ⟨⟨0, rfl⟩, ⟨1, rfl⟩, ⟨2, rfl⟩, ⟨3, rfl⟩, ⟨4, rfl⟩, ⟨5, rfl⟩, trivial⟩ (mulNN_spec (cD d (j + 1) x) (cD d (size - 1 - (j + 1)) y) _ _ V (hMX.mono hV3) hMB (by have := cD_big h8 hn8 (n := j + 1) (by omega) x; omega) (by have := cD_big h8 hn8 (n := size - 1 - (j + 1)) (by omega) y; omega)) ?_
              rintro _ V2 hv2 ⟨ma, mk, mc, rfl, hM⟩
              refine D_call rfl rfl c2035 rfl ⟨⟨0, rfl⟩, ⟨1, rfl⟩, ⟨2, rfl⟩, ⟨3, rfl⟩, ⟨4, rfl⟩, ⟨5, rfl⟩, trivial⟩ (addNN_spec (add4 d sym size p0 j (keysAt kvX seenX) x (keysAt kvB seenB) (atM d (sym : Int) [x, y])) (cD d (j + 1) x * cD d (size - 1 - (j + 1)) y) _ _ V2 (hoN.mono hv2) hM (add4_big h8 hn8 h64 (hp0 _) sym (by omega) (Nat.le_trans hklX hn8) (Nat.le_trans hklB hn8) x) (by have h1 := prod_le h8 hn8 h64 (show j + 1 < size by omega) x y; have h2 := pow_big2 (K := 1) h64 (by decide); omega)) ?_
              rintro _ V3 hv3 ⟨ra, rk, rc, rfl, hR⟩
              refine D_lastSet mt2035 (by kernel_rfl) 5 rfl rfl rfl rfl rfl rfl ?_
              refine Q_block ?_
              refine KQ_sel [1, 1, 1, 1, 1] rfl ?_
              refine Q_nextD (seenB ++ [i], V3, setI ck (atM d (sym : Int) [x, y]) (.agg #[.slice ra rk rc])) ⟨hndB, hltB, hV.trans (hv2.trans hv3), hV3.trans (hv2.trans hv3), by rw [hksB]; exact (hCk.mono (hv2.trans hv3)).add tr ⟨ra, rk, rc, rfl, hR⟩ fun p => add4_snoc d sym size p0 j _ x _ y p⟩ (by (try dsimp only); rw [List.length_append]; simp only [List.length_cons, List.length_nil]; omega) trivial rfl rfl rfl
        ·
          have hj' : j = size - 2 := by omega
          subst hj'
          refine K_exit ?_
          refine Q_then_exit ?_
          refine Q_then_exit ?_
          refine Q_block_exit ?_
          refine Q_block ?_
          refine Q_fall ?_
          refine results_sel [0, 0] rfl (rs := []) (vs := []) rfl trivial ?_
          exact ⟨ck, rfl, hCk.congr fun q => add2_all (by omega) (by omega) (by omega) q⟩
end Go.Proofs.X

namespace Go.Proofs.X
open Go Pal Go.Proofs
attribute [local irreducible] Pal.KO Pal.KC Pal.KQ Pal.KD
theorem ty2129 : Ty Tryz.prog T2129 true 3 := .of (by kernel_rfl)
theorem fd2129_0 : fldOk Tryz.prog T2129 0 0 = true := by kernel_rfl
theorem fd2129_1 : fldOk Tryz.prog T2129 1 1 = true := by kernel_rfl
theorem fd2129_2 : fldOk Tryz.prog T2129 2 2 = true := by kernel_rfl
theorem z54 : zeroOk Tryz.prog T54 (.agg #[.slice none 0 0, .slice none 0 0, .slice none 0 0]) := .of (by kernel_rfl)
theorem z2035 : zeroOk Tryz.prog T2035 (.map none) := .of (by kernel_rfl)
theorem z2129 : zeroOk Tryz.prog T2129 (.agg #[.slice none 0 0, .slice none 0 0, .slice none 0 0]) := .of (by kernel_rfl)
theorem pl54 : placesOk Tryz.prog T54 [(0, 1), (1, 1), (2, 1)] := ⟨_, Tryz.underlying37, by kernel_rfl⟩
theorem pl2129 : placesOk Tryz.prog T2129 [(0, 1), (1, 1), (2, 1)] := ⟨_, Tryz.underlying26, by kernel_rfl⟩
theorem c2115 : callable Tryz.prog F2115 = true := by kernel_rfl
theorem c2156 : callable Tryz.prog F2156 = true := by kernel_rfl
theorem ap44 : App Tryz.prog T44 T25 1 24 := .of sl44 (by kernel_rfl)
theorem ap2143 : App Tryz.prog T2143 T2035 1 8 := .of sl2143 (by kernel_rfl)
theorem eqtf_spec (gf : Nat) (hcal : callable Tryz.prog gf = true) (ts : List Tr) (H : View) (a1 a2 : Option Addr) (k1 k2 : Nat) (cx cy : List Value) (hb : ts.length ≤ 1099511627776) (hS1 : SlAt H (.slice a1 ts.length k1) ts.length cx) (hL1 : RepL (RepT H) 2 ts cx) (hS2 : SlAt H (.slice a2 ts.length k2) ts.length cy) (hL2 : RepL (RepT H) 2 ts cy)
    (hf : ∀ V (i : Nat) (h1 : i < ts.length) cs ds, RepT V ts[i] cs → RepT V ts[i] ds → Sat Tryz.prog gf ([] ++ [Value.agg cs.toArray, .agg ds.toArray] ++ []).toArray V (fun v _ => v = .bool true)) :
    Sat Tryz.prog F2122 #[.slice a1 ts.length k1, .slice a2 ts.length k2, .func (.func gf) #[] #[]] H (fun v _ => v = .bool true) := by
  refine enterO (n := 32) (args := [.slice a1 ts.length k1, .slice a2 ts.length k2, .func (.func gf) #[] #[]]) Tryz.func45 rfl rfl rfl fun w0 => ?_
  refine K_seq ?_
  refine K_region ?_
  refine KV (R_assign rfl) rfl ?_
  refine K_nil ?_
  refine Q_then ?_
  refine K_seq ?_
  refine K_seq ?_
  refine K_region ?_
  refine KV (R_move rfl) rfl ?_
  refine KV (R_len sl28 rfl) rfl ?_
  refine KV (R_move rfl) rfl ?_
  refine KV (R_len sl28 rfl) rfl ?_
  refine KV (R_cmp rfl rfl rfl) rfl ?_
  refine K_nil ?_
  refine Q_then ?_
  refine K_if rfl (fun h14 => ?_) (fun h14 => ?_)
  ·
    exact absurd rfl h14
  ·
    refine K_skip ?_
    refine Q_then ?_
    refine K_seq ?_
    refine K_seq ?_
    refine K_region ?_
    refine KV (R_move rfl) rfl ?_
    refine KV (R_len sl28 rfl) rfl ?_
    refine KV (R_move rfl) rfl ?_
    refine K_nil ?_
    refine Q_then ?_
    refine K_block ?_
    refine K_loopD (G := Nat × View) [6, 7, 8, 9, 17, 18, 19, 20, 21, 22, 23, 24, 25, 26, 27, 28, 29, 30, 31] (fun g => [(17, .int .i64 (g.1 : Int))]) (fun hl g => hl) (fun g => g.2) (fun g => (g.1 ≤ ts.length) ∧ (VLe H g.2)) (fun g => ts.length - g.1) (0, H) ⟨Nat.zero_le _, VLe.refl _⟩ ⟨rfl, trivial⟩ (by simp only [args0, Nat.reduceAdd, del, memN, beqN, Nat.reduceBEq, cond_true, cond_false]; rfl) rfl rfl ?_
    rintro ⟨k, V⟩ ⟨hk0, hV⟩
    dsimp only at hk0 hV
    dsimp only [List.set, List.cons_append, List.nil_append]
    refine K_seq ?_
    refine K_region ?_
    refine KV (R_cmp rfl rfl rfl) rfl ?_
    refine K_nil ?_
    refine Q_then ?_
    refine K_seq ?_
    refine K_if rfl (fun h18 => ?_) (fun h18 => ?_)
    ·
      have hk' : k < ts.length := by omega
      obtain ⟨xb, xo, xcs, xe, xcl, xR, xA⟩ := (SlAt.mono hS1 hV).elem (hL1.imp fun x cs h => h.mono hV) (i := k) hk' rfl
      cases xe
      obtain ⟨x0, x1, x2, x3, rfl⟩ := xR.shape
      obtain ⟨yb, yo, ycs, ye, ycl, yR, yA⟩ := (SlAt.mono hS2 hV).elem (hL2.imp fun x cs h => h.mono hV) (i := k) hk' rfl
      cases ye
      obtain ⟨y0, y1, y2, y3, rfl⟩ := yR.shape
      refine K_skip ?_
      refine Q_then ?_
      refine K_seq ?_
      refine K_block ?_
      refine K_seq ?_
      refine K_region ?_
      refine KV (R_move rfl) rfl ?_
      refine KV (R_indexN sl28 ty30 rfl rfl (by omega)) rfl ?_
      refine KV (R_loadH ty30 rfl (xA) rfl (fun e => by cases e) rfl) rfl ?_
      refine KA (A_alloc z30) rfl fun b8 => ?_
      refine KV (R_assign rfl) rfl ?_
      refine K_storeW ty30 0 rfl rfl rfl rfl rfl rfl rfl ?_
      refine K_nil ?_
      refine Q_then ?_
      refine K_seq ?_
      refine K_region ?_
      refine KV (R_move rfl) rfl ?_
      refine KV (R_move rfl) rfl ?_
      refine KV (R_indexN sl28 ty30 rfl rfl (by omega)) rfl ?_
      refine KV (R_loadH ty30 rfl (yA) rfl (fun e => by cases e) rfl) rfl ?_
      refine KA (A_alloc z30) rfl fun b9 => ?_
      refine K_storeW ty30 0 rfl rfl rfl rfl rfl rfl rfl ?_
      refine K_nil ?_
      refine Q_then ?_
      refine K_seq ?_
      refine K_region ?_
      refine KV (R_move rfl) rfl ?_
      refine KV (R_loadW ty30 1 rfl rfl rfl rfl) rfl ?_
      refine KV (R_loadW ty30 0 rfl rfl rfl rfl) rfl ?_
      refine K_callV hcal rfl rfl rfl (hf V k hk' _ _ xR yR) ?_
      rintro _ V2 hv2 rfl
      refine KV (R_not rfl) rfl ?_
      refine K_nil ?_
      refine Q_then ?_
      refine K_ifB rfl (fun h30 => ?_) (fun h30 => ?_)
      ·
        cases h30
      ·
        refine K_skip ?_
        refine Q_block ?_
        refine Q_then ?_
        refine K_region ?_
        refine KV (R_add rfl rfl (by omega)) rfl ?_
        refine KV (R_move rfl) rfl ?_
        refine K_nil ?_
        refine KQ_sel [] rfl ?_
        refine Q_nextD (k + 1, V2) ⟨hk', hV.trans hv2⟩ (by (try dsimp only); omega) ⟨rfl, trivial⟩ rfl rfl rfl
    ·
      have hk' : k = ts.length := by omega
      refine K_exit ?_
      refine Q_then_exit ?_
      refine Q_then_exit ?_
      refine Q_block_exit ?_
      refine Q_then ?_
      refine K_seq ?_
      refine K_region ?_
      refine KV (R_assign rfl) rfl ?_
      refine K_nil ?_
      refine Q_then ?_
      refine K_ret ?_
      refine results_gen (rs := [.tmp 6]) (vs := [_]) rfl ⟨rfl, trivial⟩ ?_
      rfl

theorem equal_spec : ∀ m t H cs ds, t.size ≤ m → m ≤ 1099511627776 → RepT H t cs → RepT H t ds → Sat Tryz.prog F2115 #[.agg cs.toArray, .agg ds.toArray] H (fun v _ => v = .bool true) := by
  intro m
  induction m with
  | zero => intro t H cs ds h; have := t.size_pos; omega
  | succ m ih =>
  intro t H cs ds hm hb hr hq
  cases t with | node x ts =>
  obtain ⟨xa, xk, xc, rfl, xS, xL, xi⟩ := hr.inv
  obtain ⟨ya, yk, yc, rfl, yS, yL, yi⟩ := hq.inv
  have hsz : (Tr.node x ts).size = 1 + Tr.sizes ts := rfl
  have hln := Tr.length_le_sizes ts
  have hcs := fun i h => child_size (s := x) (ts := ts) (i := i) h
  refine enterO (n := 17) (args := [.agg #[.int .i64 x, .slice xa ts.length xk], .agg #[.int .i64 x, .slice ya ts.length yk]]) Tryz.func17 rfl rfl rfl fun w0 => ?_
  refine K_seq ?_
  refine K_region ?_
  refine KA (A_box rfl) rfl fun b2 => ?_
  refine KA (A_box rfl) rfl fun b3 => ?_
  refine KV (R_assign rfl) rfl ?_
  refine K_nil ?_
  refine Q_then ?_
  refine K_seq ?_
  refine K_region ?_
  refine KV (R_fieldAddr 0 fd30_0 rfl) rfl ?_
  refine KV (R_loadO ty3 1 rfl rfl rfl rfl (fun _ => rfl) rfl) rfl ?_
  refine KV (R_fieldAddr 0 fd30_0 rfl) rfl ?_
  refine KV (R_loadO ty3 0 rfl rfl rfl rfl (fun _ => rfl) rfl) rfl ?_
  refine KV (R_cmp rfl rfl rfl) rfl ?_
  refine KV (R_move rfl) rfl ?_
  refine K_split ?_ ?_
  ·
    intro h10
    refine K_gyes rfl rfl ?_
    refine KV (R_fieldAddr 1 fd30_1 rfl) rfl ?_
    refine K_gyes rfl rfl ?_
    refine KV (R_loadO ty28 1 rfl rfl rfl rfl (fun _ => rfl) rfl) rfl ?_
    refine K_gyes rfl rfl ?_
    refine KV (R_fieldAddr 1 fd30_1 rfl) rfl ?_
    refine K_gyes rfl rfl ?_
    refine KV (R_loadO ty28 0 rfl rfl rfl rfl (fun _ => rfl) rfl) rfl ?_
    refine K_gyes rfl rfl ?_
    refine K_call c2122 rfl rfl (eqtf_spec F2115 c2115 ts H _ _ _ _ xc yc (by omega) xS xL yS yL (fun V i h1 cs ds r1 r2 => ih _ V cs ds (by have := hcs i h1; omega) (by omega) r1 r2)) ?_
    rintro _ V1 hv1 rfl
    refine KV (R_pickT rfl rfl) rfl ?_
    refine KV (R_assign rfl) rfl ?_
    refine K_nil ?_
    refine Q_then ?_
    refine K_ret ?_
    refine results_gen (rs := [.tmp 4]) (vs := [_]) rfl ⟨rfl, trivial⟩ ?_
    rfl
  ·
    intro h10
    exact absurd rfl h10

set_option maxHeartbeats 1000000 in
theorem counttrees_spec (d : Dt) (hb : d.ranks.length ≤ 1048576 ∧ d.acc.length ≤ 1048576 ∧ d.to.length ≤ 1048576 ∧ ∀ x ∈ d.to, x.length ≤ 1048576) (h8 : d.ranks.length ≤ 8) (hn8 : d.acc.length ≤ 8) (size : Int) (v1 v2 v3 : Value) (H : View) (hd : RepDt H d v1 v2 v3) : Sat Tryz.prog F2147 #[.agg #[v1, v2, v3], .int .i64 size] H (fun r H' => ∃ xa xk xc, r = .tuple #[.agg #[.slice xa xk xc], .int .i64 (countErr d size)] ∧ RepN H' (.slice xa xk xc) (if countErr d size = 0 then sumA d size.toNat else 0)) := by
  unfold countErr
  obtain ⟨ua1, uc1x, rfl⟩ := hd.r.shape
  obtain ⟨ua2, uc2x, rfl⟩ := hd.a.shape
  obtain ⟨ua3, uc3x, rfl⟩ := hd.t.shape
  refine enterO (n := 74) (args := [.agg #[.slice ua1 d.ranks.length uc1x, .slice ua2 d.acc.length uc2x, .slice ua3 d.to.length uc3x], .int .i64 size]) Tryz.func6 rfl rfl rfl fun w0 => ?_
  refine K_seq ?_
  refine K_region ?_
  refine KA (A_box rfl) rfl fun b2 => ?_
  refine KA (A_alloc z2009) rfl fun b4 => ?_
  refine KV (R_assign rfl) rfl ?_
  refine K_nil ?_
  refine Q_then ?_
  refine K_seq ?_
  refine K_seq ?_
  refine K_region ?_
  refine KV (R_loadW ty54 1 rfl rfl rfl rfl) rfl ?_
  refine K_call c63 rfl rfl (dcheck_spec d _ _ _ H hd hb) ?_
  rintro _ V1 hv1 rfl
  refine KV (R_assign rfl) rfl ?_
  refine K_nil ?_
  refine Q_then ?_
  refine K_seq ?_
  refine K_region ?_
  refine KV (R_move rfl) rfl ?_
  refine KV (R_cmp rfl rfl rfl) rfl ?_
  refine K_nil ?_
  refine Q_then ?_
  refine K_if rfl (fun h17 => ?_) (fun h17 => ?_)
  ·
    refine K_seq ?_
    refine K_region ?_
    refine KV (R_build z2009 pl2009 rfl rfl) rfl ?_
    refine KV (R_move rfl) rfl ?_
    refine K_storeW ty2009 0 rfl rfl rfl rfl rfl rfl rfl ?_
    refine KV (R_assign rfl) rfl ?_
    refine K_nil ?_
    refine Q_then ?_
    refine K_ret ?_
    refine Q_then_ret ?_
    refine results_gen (rs := [.cell 4 31, .tmp 5]) (vs := [_, _]) rfl ⟨⟨_, _, _, _, _, _, 0, rfl, rfl, ty2009, (fun e => by cases e), rfl, rfl⟩, ⟨rfl, trivial⟩⟩ ?_
    exact ⟨_, _, _, by rw [if_pos h17]; rfl, by rw [if_pos h17, if_neg h17]; exact repN_zero _⟩
  ·
    have hde : dtErr d = 0 := Decidable.not_not.1 h17
    have hok := DtOk.of hde
    refine K_skip ?_
    refine Q_then ?_
    refine K_seq ?_
    refine K_seq ?_
    refine K_region ?_
    refine KV (R_move rfl) rfl ?_
    refine KV (R_cmp rfl rfl rfl) rfl ?_
    refine KV (R_move rfl) rfl ?_
    refine K_split ?_ ?_
    ·
      intro h22
      refine K_gno rfl rfl rfl rfl ?_
      refine K_gno rfl rfl rfl rfl ?_
      refine KV (R_pickT rfl rfl) rfl ?_
      refine K_nil ?_
      refine Q_then ?_
      refine K_ifT rfl ?_
      refine K_seq ?_
      refine K_region ?_
      refine KV (R_build z2009 pl2009 rfl rfl) rfl ?_
      refine K_storeW ty2009 0 rfl rfl rfl rfl rfl rfl rfl ?_
      refine KV (R_assign rfl) rfl ?_
      refine K_nil ?_
      refine Q_then ?_
      refine K_ret ?_
      refine Q_then_ret ?_
      refine results_gen (rs := [.cell 4 31, .tmp 5]) (vs := [_, _]) rfl ⟨⟨_, _, _, _, _, _, 0, rfl, rfl, ty2009, (fun e => by cases e), rfl, rfl⟩, ⟨rfl, trivial⟩⟩ ?_
      have hor : size < 0 ∨ 64 < size := by omega
      exact ⟨_, _, _, by rw [if_neg h17, if_pos hor]; rfl, by rw [if_neg h17, if_pos hor, if_neg (by decide)]; exact repN_zero _⟩
    ·
      intro h22
      refine K_gyes rfl rfl ?_
      refine KV (R_move rfl) rfl ?_
      refine K_gyes rfl rfl ?_
      refine KV (R_cmp rfl rfl rfl) rfl ?_
      refine KV (R_pickF rfl rfl) rfl ?_
      refine K_nil ?_
      refine Q_then ?_
      refine K_if rfl (fun h25 => ?_) (fun h25 => ?_)
      ·
        refine K_seq ?_
        refine K_region ?_
        refine KV (R_build z2009 pl2009 rfl rfl) rfl ?_
        refine K_storeW ty2009 0 rfl rfl rfl rfl rfl rfl rfl ?_
        refine KV (R_assign rfl) rfl ?_
        refine K_nil ?_
        refine Q_then ?_
        refine K_ret ?_
        refine Q_then_ret ?_
        refine results_gen (rs := [.cell 4 31, .tmp 5]) (vs := [_, _]) rfl ⟨⟨_, _, _, _, _, _, 0, rfl, rfl, ty2009, (fun e => by cases e), rfl, rfl⟩, ⟨rfl, trivial⟩⟩ ?_
        have hor : size < 0 ∨ 64 < size := by omega
        exact ⟨_, _, _, by rw [if_neg h17, if_pos hor]; rfl, by rw [if_neg h17, if_pos hor, if_neg (by decide)]; exact repN_zero _⟩
      ·
        obtain ⟨n, rfl⟩ := Int.eq_ofNat_of_zero_le (show 0 ≤ size by omega)
        refine K_skip ?_
        refine Q_then ?_
        refine K_seq ?_
        refine K_region ?_
        refine KV (R_move rfl) rfl ?_
        refine KV (R_add rfl rfl (by omega)) rfl ?_
        refine KA (A_makeSlice (k := n + 1) ap2143 z2035 ty2035 rfl rfl (by omega) (by omega)) rfl fun b29 => ?_
        refine KV (R_assign rfl) rfl ?_
        refine K_nil ?_
        rw [show madeCells (Value.map none).cells ((n + 1) * 1) = (List.replicate (n + 1) (Value.map none)).toArray from made_one _ _]
        refine Q_then ?_
        refine K_seq ?_
        refine K_seq ?_
        refine K_region ?_
        refine KV (R_move rfl) rfl ?_
        refine KV (R_len sl2143 rfl) rfl ?_
        refine KV (R_move rfl) rfl ?_
        refine K_nil ?_
        refine Q_then ?_
        refine K_block ?_
        refine K_loopD (G := Nat × View × List Value) [8, 9, 10, 32, 33, 34, 35, 36, 37, 38, 39, 40, 41, 42, 43, 44, 45, 46, 47, 48, 49, 50, 51, 52, 53, 54] (fun g => [(32, .int .i64 (g.1 : Int))]) (fun hl g => (hl.set 0 (blk b29 (.cells g.2.2.toArray T2035 (0, 0))))) (fun g => g.2.1) (fun g => (g.1 ≤ n + 1) ∧ (VLe V1 g.2.1) ∧ (g.2.2.length = n + 1) ∧ (∀ i, i < g.1 → ∃ mb kvs, g.2.2[i]? = some (mp mb) ∧ g.2.1 mb = some (mapOb kvs) ∧ CntM g.2.1 d.acc.length kvs (cD d i))) (fun g => n + 1 - g.1) (0, V1, List.replicate (n + 1) (Value.map none)) ⟨Nat.zero_le _, VLe.refl _, List.length_replicate .., fun i h => absurd h (Nat.not_lt_zero _)⟩ ⟨rfl, trivial⟩ (by simp only [args0, Nat.reduceAdd, del, memN, beqN, Nat.reduceBEq, cond_true, cond_false]; rfl) rfl rfl ?_
        rintro ⟨k, V, ms⟩ ⟨hk0, hV, hml, hprev⟩
        dsimp only at hk0 hV hml hprev
        dsimp only [List.set, List.cons_append, List.nil_append]
        refine K_seq ?_
        refine K_region ?_
        refine KV (R_cmp rfl rfl rfl) rfl ?_
        refine K_nil ?_
        refine Q_then ?_
        refine K_seq ?_
        refine K_if rfl (fun h33 => ?_) (fun h33 => ?_)
        ·
          have hk' : k < n + 1 := by omega
          refine K_skip ?_
          refine Q_then ?_
          refine K_seq ?_
          refine K_block ?_
          refine K_seq ?_
          refine K_region ?_
          refine KV (R_move rfl) rfl ?_
          refine KV (R_assign rfl) rfl ?_
          refine K_nil ?_
          refine Q_then ?_
          refine K_seq ?_
          refine K_region ?_
          refine KV (R_move rfl) rfl ?_
          refine KV (R_move rfl) rfl ?_
          refine KA (A_makeMap) rfl fun b37 => ?_
          refine KV (R_index sl2143 ty2035 rfl rfl ⟨by omega, by omega⟩) rfl ?_
          refine K_storeE ty2035 1 rfl rfl rfl rfl (by rw [List.size_toArray]; show _ + 1 ≤ _; omega) rfl (ms_put (i := k) (by omega) (by omega)) ?_
          refine K_nil ?_
          refine Q_then ?_
          refine K_seq ?_
          refine K_region ?_
          refine KV (R_fieldAddr 0 fd54_0 rfl) rfl ?_
          refine KV (R_loadO ty47 3 rfl rfl rfl rfl (fun _ => rfl) rfl) rfl ?_
          refine KV (R_len sl47 rfl) rfl ?_
          refine KV (R_move rfl) rfl ?_
          refine K_nil ?_
          refine Q_then ?_
          refine K_block ?_
          refine K_loopD (G := Nat × View × KVs) [9, 10, 42, 43, 44, 45, 46, 47, 48, 49, 50, 51, 52, 53] (fun g => [(42, .int .i64 (g.1 : Int))]) (fun hl g => (hl.set 0 (blk b37 (mapOb g.2.2)))) (fun g => g.2.1) (fun g => (g.1 ≤ d.ranks.length) ∧ (VLe V g.2.1) ∧ (CntM g.2.1 d.acc.length g.2.2 (partD d k g.1))) (fun g => d.ranks.length - g.1) (0, V, []) ⟨Nat.zero_le _, VLe.refl _, (CntM.zero V _).congr fun q => rfl⟩ ⟨rfl, trivial⟩ (by simp only [args0, Nat.reduceAdd, del, memN, beqN, Nat.reduceBEq, cond_true, cond_false]; rfl) rfl rfl ?_
          rintro ⟨j, Vj, cur⟩ ⟨hj0, hVj, hCj⟩
          dsimp only at hj0 hVj hCj
          dsimp only [List.set, List.cons_append, List.nil_append]
          refine K_seq ?_
          refine K_region ?_
          refine KV (R_cmp rfl rfl rfl) rfl ?_
          refine K_nil ?_
          refine Q_then ?_
          refine K_seq ?_
          refine K_if rfl (fun h43 => ?_) (fun h43 => ?_)
          ·
            have hj' : j < d.ranks.length := by omega
            obtain ⟨tb, to_, hte, tA⟩ := (hd.mono (hv1.trans (hV.trans hVj))).r.get hj'
            cases hte
            refine K_skip ?_
            refine Q_then ?_
            refine K_seq ?_
            refine K_block ?_
            refine K_seq ?_
            refine K_region ?_
            refine KV (R_move rfl) rfl ?_
            refine KV (R_indexN sl47 ty3 rfl rfl (by omega)) rfl ?_
            refine KV (R_loadH ty3 rfl (tA) rfl (fun _ => rfl) rfl) rfl ?_
            refine KV (R_assign rfl) rfl ?_
            refine KV (R_assign rfl) rfl ?_
            refine K_nil ?_
            refine Q_then ?_
            refine K_region ?_
            refine KV (R_loadW ty54 3 rfl rfl rfl rfl) rfl ?_
            refine KV (R_move rfl) rfl ?_
            refine KV (R_move rfl) rfl ?_
            refine KV (R_move rfl) rfl ?_
            refine KV (R_move rfl) rfl ?_
            refine KO_sel [1, 0, 0, 0] rfl ?_
            have hsp := count_spec d hok hb h8 hn8 j hj' _ _ _ Vj (hd.mono (hv1.trans (hV.trans hVj))) b29 b37 k (ms.set k (mp b37)) cur (partD d k j) (by rw [List.length_set]; omega) (by rw [List.getElem?_set]; simp; omega) (fun i hi => by
                obtain ⟨mb, kvs, e1, e2, e3⟩ := hprev i hi
                exact ⟨mb, kvs, by rw [List.getElem?_set_ne (by omega)]; exact e1, hVj _ _ e2, e3.mono hVj⟩) hCj (fun q => partD_bound h8 hn8 (by omega) (by omega) q)
            rw [List.length_set, hml] at hsp
            refine K_callO (first := []) [_, _] _ (List.Perm.refl _) c2156 rfl rfl rfl hsp ?_
            rintro _ V2 q hv2 ⟨cur', rfl, hC2⟩
            dsimp only [List.cons_append, List.nil_append]

            refine K_nil ?_
            refine Q_block ?_
            refine Q_then ?_
            refine K_region ?_
            refine KV (R_add rfl rfl (by omega)) rfl ?_
            refine KV (R_move rfl) rfl ?_
            refine K_nil ?_
            refine KQ_sel [1, 0, 0, 0] rfl ?_
            refine Q_nextD (j + 1, V2, cur') ⟨hj', hVj.trans hv2, hC2.congr fun q => (sumN_succ j fun sym => termD d (cD d) sym k q).symm⟩ (by (try dsimp only); omega) ⟨rfl, trivial⟩ rfl rfl rfl
          ·
            have hj' : j = d.ranks.length := by omega
            subst hj'
            refine K_exit ?_
            refine Q_then_exit ?_
            refine Q_then_exit ?_
            refine Q_block_exit ?_
            refine Q_block ?_
            refine Q_then ?_
            refine KC_front 0 rfl ?_
            try dsimp only [List.eraseIdx]
            refine KC_pubF fun V3 hv3 hmb => ?_
            skip
            refine K_region ?_
            refine KV (R_add rfl rfl (by omega)) rfl ?_
            refine KV (R_move rfl) rfl ?_
            refine K_nil ?_
            refine Q_nextD (k + 1, V3, ms.set k (mp b37)) ⟨hk', hV.trans (hVj.trans hv3), by rw [List.length_set]; exact hml, fun i hi => by
                  by_cases e : i = k
                  · subst e
                    exact ⟨b37, cur, by rw [List.getElem?_set]; simp; omega, hmb, (hCj.mono hv3).congr fun q => partD_all d i q⟩
                  · obtain ⟨mb, kvs, e1, e2, e3⟩ := hprev i (by omega)
                    exact ⟨mb, kvs, by rw [List.getElem?_set_ne (by omega)]; exact e1, hv3 _ _ (hVj _ _ e2), e3.mono (hVj.trans hv3)⟩⟩ (by (try dsimp only); omega) ⟨rfl, trivial⟩ rfl rfl rfl
        ·
          have hk' : k = n + 1 := by omega
          subst hk'
          refine K_exit ?_
          refine Q_then_exit ?_
          refine Q_then_exit ?_
          refine Q_block_exit ?_
          refine Q_then ?_
          refine K_seq ?_
          refine K_region ?_
          refine KA (A_alloc z2009) rfl fun b11 => ?_
          refine K_nil ?_
          refine Q_then ?_
          refine K_seq ?_
          refine K_seq ?_
          obtain ⟨mN, kvs, hmN, hbN, hCN⟩ := hprev n (by omega)
          have hvN := hV
          refine K_region ?_
          refine KV (R_move rfl) rfl ?_
          refine KV (R_move rfl) rfl ?_
          refine KV (R_index sl2143 ty2035 rfl rfl ⟨by omega, by omega⟩) rfl ?_
          refine KV (R_loadC ty2035 1 rfl rfl (msGet hmN (by omega))) rfl ?_
          refine K_range mt2035 rfl (.inl (hbN)) rfl fun b59 => ?_
          refine K_nil ?_
          refine Q_then ?_
          refine K_block ?_
          refine K_loopD (G := List Nat × View × Value) [12, 13, 60, 61, 62, 63, 64, 65, 66, 67, 68, 69, 70, 71, 72] (fun g => []) (fun hl g => ((hl.set 0 (blk b59 (itO mN kvs.length g.1))).set 1 (blk b11 (.cells #[g.2.2] T2009 (0, 0))))) (fun g => g.2.1) (fun g => (g.1.Nodup) ∧ (∀ i ∈ g.1, i < kvs.length) ∧ (VLe V g.2.1) ∧ (∃ za zk zc, g.2.2 = .slice za zk zc ∧ RepN g.2.1 g.2.2 (((keysAt kvs g.1).map (fun q => if d.acc.getD q.toNat false = true then cD d n q else 0)).sum))) (fun g => kvs.length - g.1.length) ([], V, nilS) ⟨List.nodup_nil, fun i hi => (by cases hi), VLe.refl _, _, _, _, rfl, repN_zero _⟩ trivial (by simp only [args0, Nat.reduceAdd, del, memN, beqN, Nat.reduceBEq, cond_true, cond_false]; rfl) rfl rfl ?_
          rintro ⟨seen, U, w⟩ ⟨hsnA, hsltA, hV, hzz⟩
          dsimp only at hsnA hsltA hV hzz
          dsimp only [List.set, List.cons_append, List.nil_append]
          obtain ⟨za, zk, zc, rfl, hz⟩ := hzz
          refine K_seq ?_
          refine K_region ?_
          refine K_next 0 rfl rfl (.inl (hV _ _ hbN)) rfl (fun hall => ?_) (fun i x u hki hni => ?_)
          ·
            have hallx := hall
            refine KV (R_extract rfl rfl) rfl ?_
            refine K_nil ?_
            refine Q_then ?_
            refine K_seq ?_
            refine K_ifF rfl ?_
            refine K_exit ?_
            refine Q_then_exit ?_
            refine Q_then_exit ?_
            refine Q_block_exit ?_
            refine Q_then ?_
            refine K_seq ?_
            refine K_region ?_
            refine KV (R_loadW ty2009 1 rfl rfl rfl rfl) rfl ?_
            refine K_storeW ty2009 3 rfl rfl rfl rfl rfl rfl rfl ?_
            refine KV (R_assign rfl) rfl ?_
            refine K_nil ?_
            refine Q_then ?_
            refine K_ret ?_
            refine results_gen (rs := [.cell 4 31, .tmp 5]) (vs := [_, _]) rfl ⟨⟨_, _, _, _, _, _, 3, rfl, rfl, ty2009, (fun e => by cases e), rfl, rfl⟩, ⟨rfl, trivial⟩⟩ ?_
            have e0 : (if dtErr d ≠ 0 then dtErr d else if (n : Int) < 0 ∨ 64 < (n : Int) then 2 else 0) = 0 := by rw [if_neg h17, if_neg (by omega)]
            refine ⟨za, zk, zc, by rw [e0]; rfl, ?_⟩
            rw [if_pos e0, Int.toNat_natCast, ← sumA_keys hCN (keysAt_all hsnA hsltA hallx)]
            exact hz
          ·
            obtain ⟨hndA, hltA, hleA⟩ := seen_snoc hsnA hsltA hni (List.getElem?_eq_some_iff.1 hki).1
            obtain ⟨hqA, hNA⟩ := CntM.key (hCN.mono hV) hki
            obtain ⟨nAa, nAk, nAc, rfl, hMA⟩ := hNA.one
            have hksA := keysAt_snoc (seen := seen) hki
            have hkiA := hki
            have hklA := keysAt_le (hCN.mono hV).1 (hCN.mono hV).2.1 hsnA hsltA
            have hqn : x.toNat < d.acc.length := by omega
            obtain ⟨ab, ao, hae, haA⟩ := (SB.mono hd.a (hv1.trans (hvN.trans hV))).get hqn
            cases hae
            have hgx : d.acc.getD x.toNat false = d.acc[x.toNat] := by simp [List.getD, hqn]
            refine KV (R_extract rfl rfl) rfl ?_
            refine K_nil ?_
            refine Q_then ?_
            refine K_seq ?_
            refine K_ifT rfl ?_
            refine K_skip ?_
            refine Q_then ?_
            refine K_block ?_
            refine K_seq ?_
            refine K_region ?_
            refine KV (R_entry 0 rfl rfl (.inl (hV _ _ hbN)) hki) rfl ?_
            refine KV (R_extract rfl rfl) rfl ?_
            refine KV (R_extract rfl rfl) rfl ?_
            refine KA (A_alloc z2009) rfl fun b13 => ?_
            refine KV (R_assign rfl) rfl ?_
            refine K_storeW ty2009 0 rfl rfl rfl rfl rfl rfl rfl ?_
            refine K_nil ?_
            refine Q_then ?_
            refine K_seq ?_
            refine K_region ?_
            refine KV (R_fieldAddr 1 fd54_1 rfl) rfl ?_
            refine KV (R_loadO ty52 5 rfl rfl rfl rfl (fun _ => rfl) rfl) rfl ?_
            refine KV (R_move rfl) rfl ?_
            refine KV (R_index sl52 ty4 rfl rfl ⟨by omega, by omega⟩) rfl ?_
            refine KV (R_loadH ty4 rfl (haA) rfl (fun _ => rfl) rfl) rfl ?_
            refine K_nil ?_
            refine Q_then ?_
            refine K_ifB rfl (fun h69 => ?_) (fun h69 => ?_)
            ·
              refine K_region ?_
              refine KV (R_loadW ty2009 2 rfl rfl rfl rfl) rfl ?_
              refine KV (R_loadW ty2009 0 rfl rfl rfl rfl) rfl ?_
              refine K_call c2035 rfl rfl (addNN_spec (((keysAt kvs seen).map (fun q => if d.acc.getD q.toNat false = true then cD d n q else 0)).sum) (cD d n x) _ _ U hz hMA (sumk_big h8 hn8 (by omega) (Nat.le_trans hklA hn8)) (by have := cD_big h8 hn8 (n := n) (by omega) x; omega)) ?_
              rintro _ V2 hv2 ⟨ra, rk, rc, rfl, hR⟩
              refine K_storeW ty2009 2 rfl rfl rfl rfl rfl rfl rfl ?_
              refine K_nil ?_
              refine Q_block ?_
              refine KQ_sel [1, 1, 1, 1, 1] rfl ?_
              refine Q_nextD (seen ++ [i], V2, .slice ra rk rc) ⟨hndA, hltA, hV.trans hv2, _, _, _, rfl, by rw [hksA, List.map_append, List.sum_append, List.map_cons, List.map_nil, List.sum_cons, List.sum_nil, Nat.add_zero]; dsimp only; rw [hgx, if_pos h69]; exact hR⟩ (by (try dsimp only); rw [List.length_append]; simp only [List.length_cons, List.length_nil]; omega) trivial rfl rfl rfl
            ·
              refine K_skip ?_
              refine Q_block ?_
              refine KQ_sel [1, 1, 1, 1, 1] rfl ?_
              refine Q_nextD (seen ++ [i], U, .slice za zk zc) ⟨hndA, hltA, hV, _, _, _, rfl, by rw [hksA, List.map_append, List.sum_append, List.map_cons, List.map_nil, List.sum_cons, List.sum_nil]; dsimp only; rw [hgx, h69]; exact hz⟩ (by (try dsimp only); rw [List.length_append]; simp only [List.length_cons, List.length_nil]; omega) trivial rfl rfl rfl

theorem even_spec (H : View) : Sat Tryz.prog F2155 #[] H (fun r H' => ∃ v1 v2 v3, r = .agg #[v1, v2, v3] ∧ RepDt H' evenD v1 v2 v3) := by
  refine enterO (n := 7) (args := []) Tryz.func16 rfl rfl rfl fun w0 => ?_
  refine K_seq ?_
  refine K_region ?_
  refine KA (A_alloc z2129) rfl fun b0 => ?_
  refine K_nil ?_
  refine Q_then ?_
  refine K_seq ?_
  refine K_region ?_
  refine KA (A_buildSlice (vs := [.int .i64 0, .int .i64 2]) sl25 ty3 z3 rfl rfl (by simp [Value.cells]) (by simp) rfl (by decide)) rfl fun b1 => ?_
  refine KA (A_buildSlice (vs := [.bool false, .bool true]) sl52 ty4 z4 rfl rfl (by simp [Value.cells]) (by simp) rfl (by decide)) rfl fun b2 => ?_
  refine KA (A_buildSlice (vs := [.int .i64 0]) sl25 ty3 z3 rfl rfl (by simp [Value.cells]) (by simp) rfl (by decide)) rfl fun b3 => ?_
  refine KA (A_buildSlice (vs := [.int .i64 1, .int .i64 0, .int .i64 0, .int .i64 1]) sl25 ty3 z3 rfl rfl (by simp [Value.cells]) (by simp) rfl (by decide)) rfl fun b4 => ?_
  refine KA (A_buildSlice (vs := [.slice (some ⟨b3, 0, none⟩) 1 1, .slice (some ⟨b4, 0, none⟩) 4 4]) sl44 ty25 z25 rfl rfl (by simp [Value.cells]) (by simp) rfl (by decide)) rfl fun b5 => ?_
  refine KV (R_build z2129 pl2129 rfl rfl) rfl ?_
  refine K_storeW ty2129 5 rfl rfl rfl rfl rfl rfl rfl ?_
  refine K_nil ?_
  refine KQ_front 4 rfl ?_
  refine KQ_pubnew (by simp [feet]) fun Ub1 hub1 hb1 => ?_
  refine KQ_front 3 rfl ?_
  refine KQ_pubnew (by simp [feet]) fun Ub2 hub2 hb2 => ?_
  refine KQ_front 2 rfl ?_
  refine KQ_pubnew (by simp [feet]) fun Ub3 hub3 hb3 => ?_
  refine KQ_front 1 rfl ?_
  refine KQ_pubnew (by simp [feet]) fun Ub4 hub4 hb4 => ?_
  refine KQ_front 0 rfl ?_
  refine KQ_pubnew (by simp [feet]) fun Ub5 hub5 hb5 => ?_
  refine Q_then ?_
  refine K_ret ?_
  refine results_gen (rs := [.cell 0 26]) (vs := [_]) rfl ⟨⟨_, _, _, _, _, _, 0, rfl, rfl, ty2129, (fun e => by cases e), rfl, rfl⟩, trivial⟩ ?_
  have hi : ∀ x : Int, x = 0 ∨ x = 1 ∨ x = 2 → i64ok x := by intro x hx; simp only [i64ok]; omega
  have s3 : SI Ub5 (slc 1 b3) [0] := ⟨⟨_, _, rfl, .inr ⟨b3, 0, rfl, (At.of hb3).mono (hub4.trans hub5)⟩⟩, fun x hx => hi x (by simp at hx; omega)⟩
  have s4 : SI Ub5 (slc 4 b4) [1, 0, 0, 1] := ⟨⟨_, _, rfl, .inr ⟨b4, 0, rfl, (At.of hb4).mono hub5⟩⟩, fun x hx => hi x (by simp at hx; omega)⟩
  have r3 : RSI Ub5 [0] [slc 1 b3] := ⟨_, rfl, s3⟩
  have r4 : RSI Ub5 [1, 0, 0, 1] [slc 4 b4] := ⟨_, rfl, s4⟩
  exact ⟨_, _, _, rfl, ⟨⟨_, _, rfl, .inr ⟨b1, 0, rfl, (At.of hb1).mono (hub2.trans (hub3.trans (hub4.trans hub5)))⟩⟩, fun x hx => hi x (by simp [evenD] at hx; omega)⟩, ⟨_, _, rfl, .inr ⟨b2, 0, rfl, (At.of hb2).mono (hub3.trans (hub4.trans hub5))⟩⟩, ⟨_, ⟨_, _, rfl, .inr ⟨b5, 0, rfl, At.of hb5⟩⟩, (RepL.one r3 rfl).snoc r4 rfl⟩⟩

theorem l36to_spec (d : Dt) (hb : d.ranks.length ≤ 1048576 ∧ d.acc.length ≤ 1048576 ∧ d.to.length ≤ 1048576 ∧ ∀ x ∈ d.to, x.length ≤ 1048576) (v1 v2 v3 : Value) (H : View) (hd : RepDt H d v1 v2 v3) : Sat Tryz.prog F2148 #[.agg #[v1, v2, v3]] H (fun r H' => ∃ w1 w2 w3, r = .agg #[w1, w2, w3] ∧ RepDt H' d w1 w2 w3) := by
  obtain ⟨ua1, uc1x, rfl⟩ := hd.r.shape
  obtain ⟨ua2, uc2x, rfl⟩ := hd.a.shape
  obtain ⟨ua3, uc3x, rfl⟩ := hd.t.shape
  obtain ⟨hb1, hb2, hb3, hb4⟩ := hb
  refine enterO (n := 34) (args := [.agg #[.slice ua1 d.ranks.length uc1x, .slice ua2 d.acc.length uc2x, .slice ua3 d.to.length uc3x]]) Tryz.func7 rfl rfl rfl fun w0 => ?_
  refine K_seq ?_
  refine K_region ?_
  refine KA (A_box rfl) rfl fun b1 => ?_
  refine KA (A_alloc z54) rfl fun b2 => ?_
  refine K_nil ?_
  refine Q_then ?_
  refine K_seq ?_
  refine K_regionD (fin := true) (R := [1, 2, 5, 6, 0, 3, 4, 7, 8, 9, 10]) (by kernel_rfl) mixed (.cons _ (.cons_cons _ (List.nil_sublist _))) ?_
  refine D_val rfl rfl rfl (R_fieldAddr 0 fd2129_0 rfl) ?_
  refine D_val rfl rfl rfl (R_loadO ty25 0 rfl rfl rfl rfl (fun _ => rfl) rfl) ?_
  refine D_val rfl rfl rfl (R_fieldAddr 1 fd2129_1 rfl) ?_
  refine D_val rfl rfl rfl (R_loadO ty52 0 rfl rfl rfl rfl (fun _ => rfl) rfl) ?_
  refine D_alloc rfl rfl rfl (A_buildSlice (vs := []) sl47 ty3 z3 rfl rfl (by simp) (by simp) rfl (by decide)) fun b5 => ?_
  refine D_append0 0 ap47 sl25 rfl rfl rfl rfl rfl ⟨⟨1, rfl⟩, trivial⟩ hd.r.1 (by simp [ints]) (ints_one _) ⟨by omega, by omega⟩ fun a8 k8 => ?_

  refine D_alloc rfl rfl rfl (A_buildSlice (vs := []) sl52 ty4 z4 rfl rfl (by simp) (by simp) rfl (by decide)) fun b9 => ?_
  refine D_append0 0 ap52 sl52 rfl rfl rfl rfl rfl ⟨⟨2, rfl⟩, trivial⟩ hd.a (by simp [bools]) (bools_one _) ⟨by omega, by omega⟩ fun a12 k12 => ?_

  refine D_val rfl rfl rfl (R_build z54 pl54 rfl rfl) ?_
  refine D_alloc rfl rfl rfl (A_alloc z54) fun b3 => ?_
  refine D_lastStore ty54 0 rfl rfl rfl rfl rfl rfl rfl rfl ?_
  refine KQ_front 2 rfl ?_
  refine KQ_pubrow rfl fun V0 hv0 hrow8 => ?_
  refine KQ_front 1 rfl ?_
  refine KQ_pubrow rfl fun V1 hv1 hrow12 => ?_
  refine Q_then ?_
  refine K_seq ?_
  refine K_seq ?_
  refine K_region ?_
  refine KV (R_assign rfl) rfl ?_
  refine K_nil ?_
  refine Q_then ?_
  refine K_block ?_
  refine K_nilrow T25 1 ?_
  refine K_loopD (G := Nat × View × Value × List Value) [4, 14, 15, 16, 17, 18, 19, 20, 21, 22, 23, 24, 25, 26, 27, 28, 29, 30, 31, 32] (fun g => [(4, .int .i64 (g.1 : Int))]) (fun hl g => ((hl.set 0 (row g.2.2.1 T25 1 g.1 g.2.2.2)).set 1 (blk b3 (.cells #[.slice a8 d.ranks.length k8, .slice a12 d.acc.length k12, g.2.2.1] T54 (0, 0))))) (fun g => g.2.1) (fun g => (g.1 ≤ d.to.length) ∧ (VLe V1 g.2.1) ∧ (RepL (RSI g.2.1) 1 (d.to.take g.1) g.2.2.2) ∧ (∃ ad cp, g.2.2.1 = .slice ad g.1 cp)) (fun g => d.to.length - g.1) (0, V1, nilS, []) ⟨Nat.zero_le _, VLe.refl _, .nil, none, 0, rfl⟩ ⟨rfl, trivial⟩ (by simp only [args0, Nat.reduceAdd, del, memN, beqN, Nat.reduceBEq, cond_true, cond_false]; rfl) rfl rfl ?_
  rintro ⟨k, V, w, cells⟩ ⟨hk, hV, hC, hw⟩
  dsimp only at hk hV hC hw
  dsimp only [List.set, List.cons_append, List.nil_append]
  obtain ⟨wa, wcp, rfl⟩ := hw
  refine K_seq ?_
  refine K_seq ?_
  refine K_region ?_
  refine KV (R_move rfl) rfl ?_
  refine KV (R_fieldAddr 2 fd2129_2 rfl) rfl ?_
  refine KV (R_loadO ty44 3 rfl rfl rfl rfl (fun _ => rfl) rfl) rfl ?_
  refine KV (R_len sl44 rfl) rfl ?_
  refine KV (R_cmp rfl rfl rfl) rfl ?_
  refine K_nil ?_
  refine Q_then ?_
  refine K_if rfl (fun h18 => ?_) (fun h18 => ?_)
  ·
    have hk' : k < d.to.length := by omega
    obtain ⟨tb, to_, ea, ecp, hte, tA, tE⟩ := (hd.mono (hv0.trans (hv1.trans hV))).t.get hk'
    cases hte
    have hxl := hb4 _ (List.getElem_mem hk')
    refine K_skip ?_
    refine Q_then ?_
    refine K_seq ?_
    refine K_block ?_
    refine K_regionD (fin := true) (R := [0, 1, 3, 4, 5, 6, 7, 2, 8, 9, 10, 11, 12]) (by kernel_rfl) mixed (.cons _ (.cons_cons _ (.cons _ (.cons_cons _ (List.nil_sublist _))))) ?_
    refine D_val rfl rfl rfl (R_fieldAddr 2 fd54_2 rfl) ?_
    refine D_val rfl rfl rfl (R_loadO ty44 0 rfl rfl rfl rfl (fun _ => rfl) rfl) ?_
    refine D_val rfl rfl rfl (R_fieldAddr 2 fd2129_2 rfl) ?_
    refine D_val rfl rfl rfl (R_loadO ty44 1 rfl rfl rfl rfl (fun _ => rfl) rfl) ?_
    refine D_val rfl rfl rfl (R_move rfl) ?_
    refine D_val rfl rfl rfl (R_indexN sl44 ty25 rfl rfl (by omega)) ?_
    refine D_val rfl rfl rfl (R_loadH ty25 rfl (tA) rfl (fun _ => rfl) rfl) ?_
    refine D_alloc rfl rfl rfl (A_buildSlice (vs := []) sl25 ty3 z3 rfl rfl (by simp) (by simp) rfl (by decide)) fun b23 => ?_
    refine D_append0 0 ap25 sl25 rfl rfl rfl rfl rfl ⟨⟨1, rfl⟩, ⟨3, rfl⟩, trivial⟩ tE.1 (by simp [ints]) (ints_one _) ⟨by omega, by omega⟩ fun a29 k29 => ?_

    refine D_alloc rfl rfl rfl (A_buildSlice (vs := [.slice a29 d.to[k].length k29]) sl44 ty25 z25 rfl rfl (by simp [Value.cells]) (by simp) rfl (by decide)) fun b30 => ?_
    refine D_append1 1 ap44 rfl rfl rfl rfl rfl rfl ⟨⟨1, rfl⟩, ⟨3, rfl⟩, trivial⟩ rfl rfl ⟨by omega, by omega⟩ fun a31 k31 hn31 => ?_
    refine D_val rfl rfl rfl (R_fieldAddr 2 fd54_2 rfl) ?_
    refine D_lastStore ty44 2 rfl rfl rfl rfl rfl rfl rfl rfl ?_
    refine KQ_front 1 rfl ?_
    refine KQ_pubrow rfl fun U hU hrow29 => ?_
    refine Q_block ?_
    refine Q_then ?_
    refine K_region ?_
    refine KV (R_move rfl) rfl ?_
    refine KV (R_add rfl rfl (by omega)) rfl ?_
    refine KV (R_assign rfl) rfl ?_
    refine K_nil ?_
    refine Q_nextD (k + 1, U, .slice a31 (k + 1) k31, cells ++ [.slice a29 d.to[k].length k29]) ⟨hk', hV.trans hU, by rw [List.take_succ_eq_append_getElem hk']; exact (hC.imp fun x cs h => h.mono hU).snoc ⟨_, rfl, hrow29.sl, tE.2⟩ rfl, _, _, rfl⟩ (by (try dsimp only); omega) ⟨rfl, trivial⟩ rfl rfl rfl
  ·
    have hk' : k = d.to.length := by omega
    subst hk'
    rw [List.take_length] at hC
    refine K_exit ?_
    refine Q_then_exit ?_
    refine Q_then_exit ?_
    refine Q_block_exit ?_
    refine Q_then ?_
    refine K_seq ?_
    refine K_region ?_
    refine KV (R_loadO ty54 1 rfl rfl rfl rfl (fun e => by cases e) rfl) rfl ?_
    refine K_store ty54 2 rfl rfl rfl rfl rfl rfl ?_
    refine K_nil ?_
    refine Q_then ?_
    refine K_ret ?_
    refine KQ_pubrow rfl fun Hp hp hrow => ?_
    refine results_gen (rs := [.cell 2 37]) (vs := [_]) rfl ⟨⟨_, _, _, _, _, _, 1, rfl, rfl, ty54, (fun e => by cases e), rfl, rfl⟩, trivial⟩ ?_
    exact ⟨_, _, _, rfl, ⟨hrow8.sl.mono (hv1.trans (hV.trans hp)), hd.r.2⟩, hrow12.sl.mono (hV.trans hp), ⟨cells, hrow.sl, hC.imp fun x cs h => h.mono hp⟩⟩
end Go.Proofs.X

namespace Go.Proofs.X
open Go Pal Go.Proofs
attribute [local irreducible] Pal.KO Pal.KC Pal.KQ Pal.KD
theorem z42 : zeroOk Tryz.prog T42 (.agg #[.slice none 0 0, .int .i64 0, .slice none 0 0, .slice none 0 0]) := .of (by kernel_rfl)
theorem z100 : zeroOk Tryz.prog T100 (.agg #[.int .i64 0, .slice none 0 0, .int .i64 0]) := .of (by kernel_rfl)
theorem pl42 : placesOk Tryz.prog T42 [(0, 1), (1, 1), (2, 1), (3, 1)] := ⟨_, Tryz.underlying54, by kernel_rfl⟩
theorem pl100 : placesOk Tryz.prog T100 [(0, 1), (1, 1), (2, 1)] := ⟨_, Tryz.underlying51, by kernel_rfl⟩
theorem c17 : callable Tryz.prog F17 = true := by kernel_rfl
theorem c2018 : callable Tryz.prog F2018 = true := by kernel_rfl
theorem c2147 : callable Tryz.prog F2147 = true := by kernel_rfl
theorem c2148 : callable Tryz.prog F2148 = true := by kernel_rfl
theorem c2153 : callable Tryz.prog F2153 = true := by kernel_rfl
theorem c2154 : callable Tryz.prog F2154 = true := by kernel_rfl
theorem c2155 : callable Tryz.prog F2155 = true := by kernel_rfl
theorem known36_spec (H : View) : Sat Tryz.prog F2145 #[] H (fun v _ => v = .bool true) := by
  refine enterO (n := 62) (args := []) Tryz.func4 rfl rfl rfl fun w0 => ?_
  refine K_seq ?_
  refine K_region ?_
  refine KV (R_assign rfl) rfl ?_
  refine K_nil ?_
  refine Q_then ?_
  refine K_seq ?_
  refine K_region ?_
  refine KA (A_buildSlice (vs := [.int .i64 0, .int .i64 2]) sl25 ty3 z3 rfl rfl (by simp [Value.cells]) (by simp) rfl (by decide)) rfl fun b9 => ?_
  refine KV (R_build z100 pl100 rfl rfl) rfl ?_
  refine KV (R_build z100 pl100 rfl rfl) rfl ?_
  refine KA (A_buildSlice (vs := [.int .i64 0, .int .i64 1]) sl25 ty3 z3 rfl rfl (by simp [Value.cells]) (by simp) rfl (by decide)) rfl fun b12 => ?_
  refine KV (R_build z100 pl100 rfl rfl) rfl ?_
  refine KA (A_buildSlice (vs := [.agg #[.int .i64 0, .slice none 0 0, .int .i64 0], .agg #[.int .i64 0, .slice none 0 0, .int .i64 1], .agg #[.int .i64 1, .slice (some ⟨b12, 0, none⟩) 2 2, .int .i64 1]]) sl40 ty100 z100 rfl rfl (by simp [Value.cells]) (by simp) rfl (by decide)) rfl fun b14 => ?_
  refine KA (A_buildSlice (vs := [.int .i64 1]) sl25 ty3 z3 rfl rfl (by simp [Value.cells]) (by simp) rfl (by decide)) rfl fun b15 => ?_
  refine KV (R_build z42 pl42 rfl rfl) rfl ?_
  refine KO_front 3 rfl ?_
  refine KO_pubF fun Ub9 hub9 hb9 => ?_
  try dsimp only [List.eraseIdx]
  refine KO_front 2 rfl ?_
  refine KO_pubF fun Ub12 hub12 hb12 => ?_
  try dsimp only [List.eraseIdx]
  refine KO_front 1 rfl ?_
  refine KO_pubF fun Ub14 hub14 hb14 => ?_
  try dsimp only [List.eraseIdx]
  refine KO_front 0 rfl ?_
  refine KO_pubF fun Ub15 hub15 hb15 => ?_
  try dsimp only [List.eraseIdx]
  have hi : ∀ x : Int, x = 0 ∨ x = 1 ∨ x = 2 → i64ok x := by intro x hx; simp only [i64ok]; omega
  have hsn : ∀ V, SI V (.slice none 0 0) [] := fun V => ⟨⟨none, 0, rfl, .inl ⟨rfl, rfl⟩⟩, by simp⟩
  have hs12 : SI Ub15 (slc 2 b12) [0, 1] := ⟨⟨_, _, rfl, .inr ⟨b12, 0, rfl, (At.of hb12).mono (hub14.trans hub15)⟩⟩, fun x hx => hi x (by simp at hx; omega)⟩
  have hrep : RepAu Ub15 knownA (slc 2 b9) (slc 3 b14) (slc 1 b15) := by
    refine ⟨⟨⟨_, _, rfl, .inr ⟨b9, 0, rfl, (At.of hb9).mono (hub12.trans (hub14.trans hub15))⟩⟩, fun x hx => hi x (by simp [knownA] at hx; omega)⟩, ⟨_, ⟨_, _, rfl, .inr ⟨b14, 0, rfl, (At.of hb14).mono hub15⟩⟩, ?_⟩, ⟨⟨_, _, rfl, .inr ⟨b15, 0, rfl, At.of hb15⟩⟩, fun x hx => hi x (by simp [knownA] at hx; omega)⟩, hi 2 (by simp), by decide, by decide, by decide⟩
    have r1 : RepR Ub15 ⟨0, [], 0⟩ [.int .i64 0, .slice none 0 0, .int .i64 0] := ⟨none, 0, rfl, hsn _, hi 0 (by simp), hi 0 (by simp), by decide⟩
    have r2 : RepR Ub15 ⟨0, [], 1⟩ [.int .i64 0, .slice none 0 0, .int .i64 1] := ⟨none, 0, rfl, hsn _, hi 0 (by simp), hi 1 (by simp), by decide⟩
    have r3 : RepR Ub15 ⟨1, [0, 1], 1⟩ [.int .i64 1, slc 2 b12, .int .i64 1] := ⟨_, _, rfl, hs12, hi 1 (by simp), hi 1 (by simp), by decide⟩
    exact ((RepL.one r1 rfl).snoc r2 rfl).snoc r3 rfl
  refine K_callO (first := []) [] _ (List.Perm.refl _) c17 rfl rfl rfl (to_spec knownA _ _ _ Ub15 hrep) ?_
  rintro _ V1 q hv1 ⟨x1, x2, x3, rfl, hx⟩
  try dsimp only [List.cons_append, List.nil_append]
  obtain ⟨xr1, xc1, rfl⟩ := hx.r.shape
  obtain ⟨xf1, xd1, rfl⟩ := hx.f.shape
  obtain ⟨xu1, xe1, rfl⟩ := hx.ushape
  refine KA (A_alloc z50) rfl fun b1 => ?_
  refine K_storeW ty50 0 rfl rfl rfl rfl rfl rfl rfl ?_
  refine K_nil ?_
  refine Q_then ?_
  refine K_seq ?_
  refine K_region ?_
  refine KV (R_loadW ty50 0 rfl rfl rfl rfl) rfl ?_
  refine K_call c2153 rfl rfl (leasttree_spec knownA _ _ _ V1 hx) ?_
  rintro _ V2 hv2 ⟨ds, o, rfl, hds, _, hL⟩
  obtain ⟨bt, hB, hO⟩ := hL known_okA
  have ho := known_leaf hB hO
  subst ho
  obtain ⟨y0, y1, y2, y3, rfl⟩ := hds.shape
  rw [known_okA]
  refine KV (R_move rfl) rfl ?_
  refine KV (R_extract rfl rfl) rfl ?_
  refine KV (R_extract rfl rfl) rfl ?_
  refine KV (R_extract rfl rfl) rfl ?_
  refine KA (A_alloc z30) rfl fun b2 => ?_
  refine K_storeW ty30 0 rfl rfl rfl rfl rfl rfl rfl ?_
  refine KV (R_assign rfl) rfl ?_
  refine KV (R_assign rfl) rfl ?_
  refine K_nil ?_
  refine Q_then ?_
  refine K_seq ?_
  refine K_region ?_
  refine KV (R_loadW ty50 1 rfl rfl rfl rfl) rfl ?_
  refine K_call c2154 rfl rfl (isfinite_spec knownA _ _ _ V2 (hx.mono hv2)) ?_
  rintro _ V3 hv3 rfl
  rw [if_pos known_okA, known_okA, known_fin]
  refine KV (R_move rfl) rfl ?_
  refine KV (R_extract rfl rfl) rfl ?_
  refine KV (R_extract rfl rfl) rfl ?_
  refine KV (R_assign rfl) rfl ?_
  refine KV (R_assign rfl) rfl ?_
  refine K_nil ?_
  refine Q_then ?_
  refine K_seq ?_
  refine K_region ?_
  refine K_call c2155 rfl rfl (even_spec V3) ?_
  rintro _ V4 hv4 ⟨e1, e2, e3, rfl, hev⟩
  refine K_call c2148 rfl rfl (l36to_spec evenD (by decide) _ _ _ V4 hev) ?_
  rintro _ V5 hv5 ⟨w1, w2, w3, rfl, hdw⟩
  refine K_call c2147 rfl rfl (counttrees_spec evenD (by decide) (by decide) (by decide) 3 _ _ _ V5 hdw) ?_
  rintro _ V6 hv6 ⟨na, nk, nc, rfl, hN⟩
  rw [even_ok] at hN ⊢
  rw [if_pos rfl, show (3 : Int).toNat = 3 from rfl, even_three] at hN
  refine KV (R_move rfl) rfl ?_
  refine KV (R_extract rfl rfl) rfl ?_
  refine KV (R_extract rfl rfl) rfl ?_
  refine KA (A_alloc z2009) rfl fun b7 => ?_
  refine K_storeW ty2009 0 rfl rfl rfl rfl rfl rfl rfl ?_
  refine KV (R_assign rfl) rfl ?_
  refine K_nil ?_
  refine Q_then ?_
  refine K_seq ?_
  refine K_regionD (fin := false) (R := [0, 1, 2, 3, 4, 5, 6, 7, 8, 9, 10, 11, 12, 13, 14, 15, 16, 17, 18, 19, 20, 21, 22, 23, 24, 25, 26, 27]) (by kernel_rfl) mixed (.cons_cons _ (.cons_cons _ (.cons_cons _ (List.nil_sublist _)))) ?_
  refine D_val rfl rfl rfl (R_move rfl) ?_
  refine D_val rfl rfl rfl (R_move rfl) ?_
  refine D_splitB ?_ ?_
  ·
    intro h36
    refine D_val rfl rfl rfl (R_move rfl) ?_
    refine D_val rfl rfl rfl (R_cmp rfl rfl rfl) ?_
    refine D_val rfl rfl rfl (R_pickT rfl rfl) ?_
    refine D_val rfl rfl rfl (R_move rfl) ?_
    refine D_split ?_ ?_
    ·
      intro h40
      refine D_val rfl rfl rfl (R_move rfl) ?_
      refine D_val rfl rfl rfl (R_cmp rfl rfl rfl) ?_
      refine D_val rfl rfl rfl (R_pickT rfl rfl) ?_
      refine D_val rfl rfl rfl (R_move rfl) ?_
      refine D_split ?_ ?_
      ·
        intro h44
        refine D_val rfl rfl rfl (R_move rfl) ?_
        refine D_val rfl rfl rfl (R_cmp rfl rfl rfl) ?_
        refine D_val rfl rfl rfl (R_pickT rfl rfl) ?_
        refine D_val rfl rfl rfl (R_move rfl) ?_
        refine D_split ?_ ?_
        ·
          intro h48
          refine D_val rfl rfl rfl (R_move rfl) ?_
          refine D_val rfl rfl rfl (R_not rfl) ?_
          refine D_val rfl rfl rfl (R_pickT rfl rfl) ?_
          refine D_val rfl rfl rfl (R_move rfl) ?_
          refine D_splitB ?_ ?_
          ·
            intro h52
            refine D_val rfl rfl rfl (R_loadW ty30 1 rfl rfl rfl rfl) ?_
            refine D_val rfl rfl rfl (R_build z30 pl30 rfl rfl) ?_
            refine D_call rfl rfl c2115 rfl ⟨⟨0, rfl⟩, ⟨1, rfl⟩, ⟨2, rfl⟩, trivial⟩ (equal_spec 1 (.node 0 []) V6 _ [.int .i64 0, .slice none 0 0] (by decide) (by decide) (hds.mono (hv3.trans (hv4.trans (hv5.trans hv6)))) (repT_leaf _ 0 (hi 0 (by simp)))) ?_
            rintro _ V7 hv7 rfl
            refine D_val rfl rfl rfl (R_pickT rfl rfl) ?_
            refine D_val rfl rfl rfl (R_move rfl) ?_
            refine D_splitB ?_ ?_
            ·
              intro h57
              refine D_val rfl rfl rfl (R_loadW ty2009 0 rfl rfl rfl rfl) ?_
              refine D_call rfl rfl c2019 rfl ⟨⟨0, rfl⟩, ⟨1, rfl⟩, ⟨2, rfl⟩, trivial⟩ (fromU_spec 1 (by decide) V7) ?_
              rintro _ V8 hv8 ⟨ma, mk, mc, rfl, hM⟩
              refine D_call rfl rfl c2018 rfl ⟨⟨0, rfl⟩, ⟨1, rfl⟩, ⟨2, rfl⟩, trivial⟩ (eqN_spec 1 1 _ _ V8 (hN.mono (hv7.trans hv8)) hM (by decide)) ?_
              rintro _ V9 hv9 rfl
              refine D_val rfl rfl rfl (R_pickT rfl rfl) ?_
              refine D_val rfl rfl rfl (R_assign rfl) ?_
              refine D_done ?_
              refine Q_then ?_
              refine K_ret ?_
              refine results_gen (rs := [.tmp 0]) (vs := [_]) rfl ⟨rfl, trivial⟩ ?_
              rfl
            ·
              intro h57
              exact absurd h57 (by decide)
          ·
            intro h52
            exact absurd h52 (by decide)
        ·
          intro h48
          exact absurd (by decide) h48
      ·
        intro h44
        exact absurd (by decide) h44
    ·
      intro h40
      exact absurd (by decide) h40
  ·
    intro h36
    exact absurd h36 (by decide)
end Go.Proofs.X

namespace Go.Proofs.X
open Go Pal Go.Proofs
attribute [local irreducible] Pal.KO Pal.KC Pal.KQ Pal.KD
theorem c36 : callable Tryz.prog F36 = true := by kernel_rfl
theorem fine_spec (d : Dt) (hb : d.ranks.length ≤ 1048576 ∧ d.acc.length ≤ 1048576 ∧ d.to.length ≤ 1048576 ∧ ∀ x ∈ d.to, x.length ≤ 1048576) (v1 v2 v3 : Value) (H : View) (hd : RepDt H d v1 v2 v3) : Sat Tryz.prog F2146 #[.agg #[v1, v2, v3]] H (fun r _ => ∃ b : Bool, r = .bool b ∧ (b = true → (d.acc.length ≤ 4 ∧ d.ranks.length ≤ 6 ∧ dtErr d = 0))) := by
  obtain ⟨hb1, hb2, hb3, hb4⟩ := hb
  obtain ⟨ua1, uc1x, rfl⟩ := hd.r.shape
  obtain ⟨ua2, uc2x, rfl⟩ := hd.a.shape
  obtain ⟨ua3, uc3x, rfl⟩ := hd.t.shape
  refine enterO (n := 97) (args := [.agg #[.slice ua1 d.ranks.length uc1x, .slice ua2 d.acc.length uc2x, .slice ua3 d.to.length uc3x]]) Tryz.func5 rfl rfl rfl fun w0 => ?_
  refine K_seq ?_
  refine K_region ?_
  refine KA (A_box rfl) rfl fun b1 => ?_
  refine KV (R_assign rfl) rfl ?_
  refine K_nil ?_
  refine Q_then ?_
  refine K_seq ?_
  refine K_region ?_
  refine KV (R_fieldAddr 1 fd2129_1 rfl) rfl ?_
  refine KV (R_loadO ty52 0 rfl rfl rfl rfl (fun _ => rfl) rfl) rfl ?_
  refine KV (R_len sl52 rfl) rfl ?_
  refine KV (R_assign rfl) rfl ?_
  refine K_nil ?_
  refine Q_then ?_
  refine K_seq ?_
  refine K_seq ?_
  refine K_region ?_
  refine KV (R_fieldAddr 0 fd2129_0 rfl) rfl ?_
  refine KV (R_loadO ty25 0 rfl rfl rfl rfl (fun _ => rfl) rfl) rfl ?_
  refine K_call c36 rfl rfl (rcheck31_spec d.ranks _ H hd.r (by omega)) ?_
  rintro _ V1 hv1 rfl
  refine KV (R_cmp rfl rfl rfl) rfl ?_
  refine KV (R_move rfl) rfl ?_
  refine K_split ?_ ?_
  ·
    intro h13
    refine K_gno rfl rfl rfl rfl ?_
    refine K_gno rfl rfl rfl rfl ?_
    refine K_gno rfl rfl rfl rfl ?_
    refine K_gno rfl rfl rfl rfl ?_
    refine KV (R_pickT rfl rfl) rfl ?_
    refine KV (R_move rfl) rfl ?_
    refine K_gno rfl rfl rfl rfl ?_
    refine K_gno rfl rfl rfl rfl ?_
    refine KV (R_pickT rfl rfl) rfl ?_
    refine KV (R_move rfl) rfl ?_
    refine K_gno rfl rfl rfl rfl ?_
    refine K_gno rfl rfl rfl rfl ?_
    refine KV (R_pickT rfl rfl) rfl ?_
    refine KV (R_move rfl) rfl ?_
    refine K_gno rfl rfl rfl rfl ?_
    refine K_gno rfl rfl rfl rfl ?_
    refine K_gno rfl rfl rfl rfl ?_
    refine K_gno rfl rfl rfl rfl ?_
    refine K_gno rfl rfl rfl rfl ?_
    refine K_gno rfl rfl rfl rfl ?_
    refine K_gno rfl rfl rfl rfl ?_
    refine KV (R_pickT rfl rfl) rfl ?_
    refine K_nil ?_
    refine Q_then ?_
    refine K_ifT rfl ?_
    refine K_seq ?_
    refine K_region ?_
    refine KV (R_assign rfl) rfl ?_
    refine K_nil ?_
    refine Q_then ?_
    refine K_ret ?_
    refine Q_then_ret ?_
    refine results_gen (rs := [.tmp 2]) (vs := [_]) rfl ⟨rfl, trivial⟩ ?_
    exact ⟨false, rfl, fun h => by cases h⟩
  ·
    intro h13
    have hrz : ranksErr d.ranks = 0 := Decidable.not_not.1 h13
    have hrks := (ranksErr_ok hrz).2
    refine K_gyes rfl rfl ?_
    refine KV (R_fieldAddr 0 fd2129_0 rfl) rfl ?_
    refine K_gyes rfl rfl ?_
    refine KV (R_loadO ty25 0 rfl rfl rfl rfl (fun _ => rfl) rfl) rfl ?_
    refine K_gyes rfl rfl ?_
    refine KV (R_len sl25 rfl) rfl ?_
    refine K_gyes rfl rfl ?_
    refine KV (R_cmp rfl rfl rfl) rfl ?_
    refine KV (R_pickF rfl rfl) rfl ?_
    refine KV (R_move rfl) rfl ?_
    refine K_split ?_ ?_
    ·
      intro h19
      refine K_gno rfl rfl rfl rfl ?_
      refine K_gno rfl rfl rfl rfl ?_
      refine KV (R_pickT rfl rfl) rfl ?_
      refine KV (R_move rfl) rfl ?_
      refine K_gno rfl rfl rfl rfl ?_
      refine K_gno rfl rfl rfl rfl ?_
      refine KV (R_pickT rfl rfl) rfl ?_
      refine KV (R_move rfl) rfl ?_
      refine K_gno rfl rfl rfl rfl ?_
      refine K_gno rfl rfl rfl rfl ?_
      refine K_gno rfl rfl rfl rfl ?_
      refine K_gno rfl rfl rfl rfl ?_
      refine K_gno rfl rfl rfl rfl ?_
      refine K_gno rfl rfl rfl rfl ?_
      refine K_gno rfl rfl rfl rfl ?_
      refine KV (R_pickT rfl rfl) rfl ?_
      refine K_nil ?_
      refine Q_then ?_
      refine K_ifT rfl ?_
      refine K_seq ?_
      refine K_region ?_
      refine KV (R_assign rfl) rfl ?_
      refine K_nil ?_
      refine Q_then ?_
      refine K_ret ?_
      refine Q_then_ret ?_
      refine results_gen (rs := [.tmp 2]) (vs := [_]) rfl ⟨rfl, trivial⟩ ?_
      exact ⟨false, rfl, fun h => by cases h⟩
    ·
      intro h19
      refine K_gyes rfl rfl ?_
      refine KV (R_move rfl) rfl ?_
      refine K_gyes rfl rfl ?_
      refine KV (R_cmp rfl rfl rfl) rfl ?_
      refine KV (R_pickF rfl rfl) rfl ?_
      refine KV (R_move rfl) rfl ?_
      refine K_split ?_ ?_
      ·
        intro h23
        refine K_gno rfl rfl rfl rfl ?_
        refine K_gno rfl rfl rfl rfl ?_
        refine KV (R_pickT rfl rfl) rfl ?_
        refine KV (R_move rfl) rfl ?_
        refine K_gno rfl rfl rfl rfl ?_
        refine K_gno rfl rfl rfl rfl ?_
        refine K_gno rfl rfl rfl rfl ?_
        refine K_gno rfl rfl rfl rfl ?_
        refine K_gno rfl rfl rfl rfl ?_
        refine K_gno rfl rfl rfl rfl ?_
        refine K_gno rfl rfl rfl rfl ?_
        refine KV (R_pickT rfl rfl) rfl ?_
        refine K_nil ?_
        refine Q_then ?_
        refine K_ifT rfl ?_
        refine K_seq ?_
        refine K_region ?_
        refine KV (R_assign rfl) rfl ?_
        refine K_nil ?_
        refine Q_then ?_
        refine K_ret ?_
        refine Q_then_ret ?_
        refine results_gen (rs := [.tmp 2]) (vs := [_]) rfl ⟨rfl, trivial⟩ ?_
        exact ⟨false, rfl, fun h => by cases h⟩
      ·
        intro h23
        refine K_gyes rfl rfl ?_
        refine KV (R_move rfl) rfl ?_
        refine K_gyes rfl rfl ?_
        refine KV (R_cmp rfl rfl rfl) rfl ?_
        refine KV (R_pickF rfl rfl) rfl ?_
        refine KV (R_move rfl) rfl ?_
        refine K_split ?_ ?_
        ·
          intro h27
          refine K_gno rfl rfl rfl rfl ?_
          refine K_gno rfl rfl rfl rfl ?_
          refine K_gno rfl rfl rfl rfl ?_
          refine K_gno rfl rfl rfl rfl ?_
          refine K_gno rfl rfl rfl rfl ?_
          refine K_gno rfl rfl rfl rfl ?_
          refine K_gno rfl rfl rfl rfl ?_
          refine KV (R_pickT rfl rfl) rfl ?_
          refine K_nil ?_
          refine Q_then ?_
          refine K_ifT rfl ?_
          refine K_seq ?_
          refine K_region ?_
          refine KV (R_assign rfl) rfl ?_
          refine K_nil ?_
          refine Q_then ?_
          refine K_ret ?_
          refine Q_then_ret ?_
          refine results_gen (rs := [.tmp 2]) (vs := [_]) rfl ⟨rfl, trivial⟩ ?_
          exact ⟨false, rfl, fun h => by cases h⟩
        ·
          intro h27
          refine K_gyes rfl rfl ?_
          refine KV (R_fieldAddr 2 fd2129_2 rfl) rfl ?_
          refine K_gyes rfl rfl ?_
          refine KV (R_loadO ty44 0 rfl rfl rfl rfl (fun _ => rfl) rfl) rfl ?_
          refine K_gyes rfl rfl ?_
          refine KV (R_len sl44 rfl) rfl ?_
          refine K_gyes rfl rfl ?_
          refine KV (R_fieldAddr 0 fd2129_0 rfl) rfl ?_
          refine K_gyes rfl rfl ?_
          refine KV (R_loadO ty25 0 rfl rfl rfl rfl (fun _ => rfl) rfl) rfl ?_
          refine K_gyes rfl rfl ?_
          refine KV (R_len sl25 rfl) rfl ?_
          refine K_gyes rfl rfl ?_
          refine KV (R_cmp rfl rfl rfl) rfl ?_
          refine KV (R_pickF rfl rfl) rfl ?_
          refine K_nil ?_
          refine Q_then ?_
          refine K_if rfl (fun h35 => ?_) (fun h35 => ?_)
          ·
            refine K_seq ?_
            refine K_region ?_
            refine KV (R_assign rfl) rfl ?_
            refine K_nil ?_
            refine Q_then ?_
            refine K_ret ?_
            refine Q_then_ret ?_
            refine results_gen (rs := [.tmp 2]) (vs := [_]) rfl ⟨rfl, trivial⟩ ?_
            exact ⟨false, rfl, fun h => by cases h⟩
          ·
            refine K_skip ?_
            refine Q_then ?_
            refine K_seq ?_
            refine K_seq ?_
            refine K_region ?_
            refine KV (R_assign rfl) rfl ?_
            refine K_nil ?_
            refine Q_then ?_
            refine K_block ?_
            refine K_loopD (G := Nat) [2, 4, 5, 36, 37, 38, 39, 40, 41, 42, 43, 44, 45, 46, 47, 48, 49, 50, 51, 52, 53, 54, 55, 56, 57, 58, 59, 60, 61, 62, 63, 64, 65, 66, 67, 68, 69, 70, 71, 72, 73, 74, 75, 76, 77, 78, 79, 80, 81, 82, 83, 84, 85, 86, 87, 88, 89, 90, 91, 92] (fun g => [(4, .int .i64 (g : Int))]) (fun hl g => hl) (fun g => V1) (fun g => (g ≤ d.to.length)) (fun g => d.to.length - g) (0 : Nat) (Nat.zero_le _) ⟨rfl, trivial⟩ (by simp only [args0, Nat.reduceAdd, del, memN, beqN, Nat.reduceBEq, cond_true, cond_false]; rfl) rfl rfl ?_
            rintro s hs0
            try dsimp only at hs0
            dsimp only [List.set, List.cons_append, List.nil_append]
            refine K_seq ?_
            refine K_seq ?_
            refine K_region ?_
            refine KV (R_move rfl) rfl ?_
            refine KV (R_fieldAddr 2 fd2129_2 rfl) rfl ?_
            refine KV (R_loadO ty44 0 rfl rfl rfl rfl (fun _ => rfl) rfl) rfl ?_
            refine KV (R_len sl44 rfl) rfl ?_
            refine KV (R_cmp rfl rfl rfl) rfl ?_
            refine K_nil ?_
            refine Q_then ?_
            refine K_if rfl (fun h40 => ?_) (fun h40 => ?_)
            ·
              have hs' : s < d.to.length := by omega
              have hs2 : s < d.ranks.length := by omega
              have hrn := hrks s hs2
              obtain ⟨tb, to_, ea, ecp, hte, tA, tE⟩ := (hd.mono hv1).t.get hs'
              cases hte
              obtain ⟨rb, ro, hre, rA⟩ := (hd.mono hv1).r.get hs2
              cases hre
              have hnn : (d.acc.length : Int) * (d.acc.length : Int) ≤ 4 * 4 := Int.mul_le_mul (by omega) (by omega) (by omega) (by decide)
              have hnn0 : 0 ≤ (d.acc.length : Int) * (d.acc.length : Int) := Int.mul_nonneg (by omega) (by omega)
              have hxl := hb4 _ (List.getElem_mem hs')
              refine K_skip ?_
              refine Q_then ?_
              refine K_seq ?_
              refine K_block ?_
              refine K_seq ?_
              refine K_seq ?_
              refine K_regionR (R := [0, 1, 2, 3, 4, 5, 6, 7, 8, 9, 11, 12, 13, 14, 15, 10, 16, 17, 18]) (by kernel_rfl) mixed ?_
              refine DR_val rfl rfl rfl (R_fieldAddr 2 fd2129_2 rfl) ?_
              refine DR_val rfl rfl rfl (R_loadO ty44 0 rfl rfl rfl rfl (fun _ => rfl) rfl) ?_
              refine DR_val rfl rfl rfl (R_move rfl) ?_
              refine DR_val rfl rfl rfl (R_indexN sl44 ty25 rfl rfl (by omega)) ?_
              refine DR_val rfl rfl rfl (R_loadH ty25 rfl (tA) rfl (fun _ => rfl) rfl) ?_
              refine DR_val rfl rfl rfl (R_len sl25 rfl) ?_
              refine DR_val rfl rfl rfl (R_move rfl) ?_
              refine DR_val rfl rfl rfl (R_move rfl) ?_
              refine DR_val rfl rfl rfl (R_move rfl) ?_
              refine DR_val rfl rfl rfl (R_mul rfl rfl (by omega)) ?_
              refine DR_val rfl rfl rfl (R_fieldAddr 0 fd2129_0 rfl) ?_
              refine DR_val rfl rfl rfl (R_loadO ty25 0 rfl rfl rfl rfl (fun _ => rfl) rfl) ?_
              refine DR_val rfl rfl rfl (R_move rfl) ?_
              refine DR_val rfl rfl rfl (R_indexN sl25 ty3 rfl rfl (by omega)) ?_
              refine DR_val rfl rfl rfl (R_loadH ty3 rfl (rA) rfl (fun _ => rfl) rfl) ?_
              refine DR_alloc rfl rfl rfl (A_buildSlice (vs := [.int .i64 1, .int .i64 (d.acc.length : Int), .int .i64 ((d.acc.length : Int) * d.acc.length)]) sl25 ty3 z3 rfl rfl (by simp [Value.cells]) (by simp) rfl (by decide)) fun b53 => ?_
              refine DR_val rfl rfl rfl (R_index sl25 ty3 rfl rfl ⟨hrn.1, by omega⟩) ?_
              refine DR_val rfl rfl rfl (R_loadC ty3 0 rfl rfl (three_get hrn (by omega))) ?_
              refine DR_val rfl rfl rfl (R_cmp rfl rfl rfl) ?_
              refine DR_done ?_
              refine Q_then ?_
              refine K_if rfl (fun h61 => ?_) (fun h61 => ?_)
              ·
                refine K_seq ?_
                refine K_region ?_
                refine KV (R_assign rfl) rfl ?_
                refine K_nil ?_
                refine Q_then ?_
                refine K_ret ?_
                refine Q_then_ret ?_
                refine Q_block_ret ?_
                refine Q_then_ret ?_
                refine Q_then_ret ?_
                refine Q_block_ret ?_
                refine Q_then_ret ?_
                refine results_gen (rs := [.tmp 2]) (vs := [_]) rfl ⟨rfl, trivial⟩ ?_
                exact ⟨false, rfl, fun h => by cases h⟩
              ·
                refine K_skip ?_
                refine Q_then ?_
                refine K_seq ?_
                refine K_region ?_
                refine KV (R_assign rfl) rfl ?_
                refine K_nil ?_
                refine Q_then ?_
                refine K_block ?_
                refine K_loopD (G := Nat) [2, 5, 62, 63, 64, 65, 66, 67, 68, 69, 70, 71, 72, 73, 74, 75, 76, 77, 78, 79, 80, 81, 82, 83, 84, 85, 86, 87, 88, 89, 90, 91, 92] (fun g => [(5, .int .i64 (g : Int))]) (fun hl g => hl) (fun g => V1) (fun g => (g ≤ d.to[s].length)) (fun g => d.to[s].length - g) (0 : Nat) (Nat.zero_le _) ⟨rfl, trivial⟩ (by simp only [args0, Nat.reduceAdd, del, memN, beqN, Nat.reduceBEq, cond_true, cond_false]; rfl) rfl rfl ?_
                rintro j hj0
                try dsimp only at hj0
                dsimp only [List.set, List.cons_append, List.nil_append]
                refine K_seq ?_
                refine K_seq ?_
                refine K_region ?_
                refine KV (R_move rfl) rfl ?_
                refine KV (R_fieldAddr 2 fd2129_2 rfl) rfl ?_
                refine KV (R_loadO ty44 1 rfl rfl rfl rfl (fun _ => rfl) rfl) rfl ?_
                refine KV (R_move rfl) rfl ?_
                refine KV (R_indexN sl44 ty25 rfl rfl (by omega)) rfl ?_
                refine KV (R_loadH ty25 rfl (tA) rfl (fun _ => rfl) rfl) rfl ?_
                refine KV (R_len sl25 rfl) rfl ?_
                refine KV (R_cmp rfl rfl rfl) rfl ?_
                refine K_nil ?_
                refine Q_then ?_
                refine K_if rfl (fun h69 => ?_) (fun h69 => ?_)
                ·
                  have hj' : j < d.to[s].length := by omega
                  obtain ⟨eb, eo, hee, eA⟩ := tE.get hj'
                  cases hee
                  refine K_skip ?_
                  refine Q_then ?_
                  refine K_seq ?_
                  refine K_block ?_
                  refine K_seq ?_
                  refine K_region ?_
                  refine KV (R_fieldAddr 2 fd2129_2 rfl) rfl ?_
                  refine KV (R_loadO ty44 1 rfl rfl rfl rfl (fun _ => rfl) rfl) rfl ?_
                  refine KV (R_move rfl) rfl ?_
                  refine KV (R_indexN sl44 ty25 rfl rfl (by omega)) rfl ?_
                  refine KV (R_loadH ty25 rfl (tA) rfl (fun _ => rfl) rfl) rfl ?_
                  refine KV (R_move rfl) rfl ?_
                  refine KV (R_indexN sl25 ty3 rfl rfl (by omega)) rfl ?_
                  refine KV (R_loadH ty3 rfl (eA) rfl (fun _ => rfl) rfl) rfl ?_
                  refine KV (R_cmp rfl rfl rfl) rfl ?_
                  refine KV (R_move rfl) rfl ?_
                  refine K_split ?_ ?_
                  ·
                    intro h81
                    refine K_gno rfl rfl rfl rfl ?_
                    refine K_gno rfl rfl rfl rfl ?_
                    refine K_gno rfl rfl rfl rfl ?_
                    refine K_gno rfl rfl rfl rfl ?_
                    refine K_gno rfl rfl rfl rfl ?_
                    refine K_gno rfl rfl rfl rfl ?_
                    refine K_gno rfl rfl rfl rfl ?_
                    refine K_gno rfl rfl rfl rfl ?_
                    refine K_gno rfl rfl rfl rfl ?_
                    refine K_gno rfl rfl rfl rfl ?_
                    refine KV (R_pickT rfl rfl) rfl ?_
                    refine K_nil ?_
                    refine Q_then ?_
                    refine K_ifT rfl ?_
                    refine K_seq ?_
                    refine K_region ?_
                    refine KV (R_assign rfl) rfl ?_
                    refine K_nil ?_
                    refine Q_then ?_
                    refine K_ret ?_
                    refine Q_block_ret ?_
                    refine Q_then_ret ?_
                    refine Q_then_ret ?_
                    refine Q_block_ret ?_
                    refine Q_block_ret ?_
                    refine Q_then_ret ?_
                    refine Q_then_ret ?_
                    refine Q_block_ret ?_
                    refine Q_then_ret ?_
                    refine results_gen (rs := [.tmp 2]) (vs := [_]) rfl ⟨rfl, trivial⟩ ?_
                    exact ⟨false, rfl, fun h => by cases h⟩
                  ·
                    intro h81
                    refine K_gyes rfl rfl ?_
                    refine KV (R_fieldAddr 2 fd2129_2 rfl) rfl ?_
                    refine K_gyes rfl rfl ?_
                    refine KV (R_loadO ty44 1 rfl rfl rfl rfl (fun _ => rfl) rfl) rfl ?_
                    refine K_gyes rfl rfl ?_
                    refine KV (R_move rfl) rfl ?_
                    refine K_gyes rfl rfl ?_
                    refine KV (R_indexN sl44 ty25 rfl rfl (by omega)) rfl ?_
                    refine K_gyes rfl rfl ?_
                    refine KV (R_loadH ty25 rfl (tA) rfl (fun _ => rfl) rfl) rfl ?_
                    refine K_gyes rfl rfl ?_
                    refine KV (R_move rfl) rfl ?_
                    refine K_gyes rfl rfl ?_
                    refine KV (R_indexN sl25 ty3 rfl rfl (by omega)) rfl ?_
                    refine K_gyes rfl rfl ?_
                    refine KV (R_loadH ty3 rfl (eA) rfl (fun _ => rfl) rfl) rfl ?_
                    refine K_gyes rfl rfl ?_
                    refine KV (R_move rfl) rfl ?_
                    refine K_gyes rfl rfl ?_
                    refine KV (R_cmp rfl rfl rfl) rfl ?_
                    refine KV (R_pickF rfl rfl) rfl ?_
                    refine K_nil ?_
                    refine Q_then ?_
                    refine K_if rfl (fun h92 => ?_) (fun h92 => ?_)
                    ·
                      refine K_seq ?_
                      refine K_region ?_
                      refine KV (R_assign rfl) rfl ?_
                      refine K_nil ?_
                      refine Q_then ?_
                      refine K_ret ?_
                      refine Q_block_ret ?_
                      refine Q_then_ret ?_
                      refine Q_then_ret ?_
                      refine Q_block_ret ?_
                      refine Q_block_ret ?_
                      refine Q_then_ret ?_
                      refine Q_then_ret ?_
                      refine Q_block_ret ?_
                      refine Q_then_ret ?_
                      refine results_gen (rs := [.tmp 2]) (vs := [_]) rfl ⟨rfl, trivial⟩ ?_
                      exact ⟨false, rfl, fun h => by cases h⟩
                    ·
                      refine K_skip ?_
                      refine Q_block ?_
                      refine Q_then ?_
                      refine K_region ?_
                      refine KV (R_move rfl) rfl ?_
                      refine KV (R_add rfl rfl (by omega)) rfl ?_
                      refine KV (R_assign rfl) rfl ?_
                      refine K_nil ?_
                      refine Q_nextD ((j + 1)) hj' (by (try dsimp only); omega) ⟨rfl, trivial⟩ rfl rfl rfl
                ·
                  refine K_exit ?_
                  refine Q_then_exit ?_
                  refine Q_then_exit ?_
                  refine Q_block_exit ?_
                  refine Q_block ?_
                  refine Q_then ?_
                  refine K_region ?_
                  refine KV (R_move rfl) rfl ?_
                  refine KV (R_add rfl rfl (by omega)) rfl ?_
                  refine KV (R_assign rfl) rfl ?_
                  refine K_nil ?_
                  refine KQ_sel [1] rfl ?_
                  refine Q_nextD ((s + 1)) hs' (by (try dsimp only); omega) ⟨rfl, trivial⟩ rfl rfl rfl
            ·
              refine K_exit ?_
              refine Q_then_exit ?_
              refine Q_then_exit ?_
              refine Q_block_exit ?_
              refine Q_then ?_
              refine K_seq ?_
              refine K_region ?_
              refine KV (R_loadW ty2129 0 rfl rfl rfl rfl) rfl ?_
              refine K_call c2148 rfl rfl (l36to_spec d ⟨hb1, hb2, hb3, hb4⟩ _ _ _ V1 (hd.mono hv1)) ?_
              rintro _ V2 hv2 ⟨w1, w2, w3, rfl, hw⟩
              refine K_call c63 rfl rfl (dcheck_spec d _ _ _ V2 hw ⟨hb1, hb2, hb3, hb4⟩) ?_
              rintro _ V3 hv3 rfl
              refine KV (R_cmp rfl rfl rfl) rfl ?_
              refine KV (R_assign rfl) rfl ?_
              refine K_nil ?_
              refine Q_then ?_
              refine K_ret ?_
              refine results_gen (rs := [.tmp 2]) (vs := [_]) rfl ⟨rfl, trivial⟩ ?_
              exact ⟨_, rfl, fun h => ⟨by omega, by omega, of_decide_eq_true h⟩⟩
end Go.Proofs.X

namespace Go.Proofs.X
open Go Pal Go.Proofs
attribute [local irreducible] Pal.KO Pal.KC Pal.KQ Pal.KD

theorem isz_spec (x : Nat) (v : Value) (H : View) (hN : RepN H v x) : Sat Tryz.prog F2149 #[.agg #[v]] H (fun r _ => r = .bool (decide (x = 0))) := by
  obtain ⟨ws, hC, hV, hU⟩ := hN
  obtain ⟨wa, wc, rfl⟩ := hU.shape
  have hlen : (x = 0) ↔ ws.length = 0 := by
    constructor
    · intro h
      have := hC.uniq (ys := []) ⟨fun w hw => (by cases hw), by simp⟩ (by rw [hV, h]; rfl)
      rw [this]; rfl
    · intro h
      rw [← hV, List.eq_nil_of_length_eq_zero h]; rfl
  refine enterO (n := 7) (args := [.agg #[.slice wa ws.length wc]]) Tryz.func8 rfl rfl rfl fun w0 => ?_
  refine K_seq ?_
  refine K_region ?_
  refine KA (A_box rfl) rfl fun b1 => ?_
  refine KV (R_assign rfl) rfl ?_
  refine K_nil ?_
  refine Q_then ?_
  refine K_seq ?_
  refine K_region ?_
  refine KV (R_fieldAddr 0 fd2009_0 rfl) rfl ?_
  refine KV (R_loadO ty2007 0 rfl rfl rfl rfl (fun _ => rfl) rfl) rfl ?_
  refine KV (R_len sl2007 rfl) rfl ?_
  refine KV (R_cmp rfl rfl rfl) rfl ?_
  refine K_split ?_ ?_
  ·
    intro h6
    refine KV (R_assign rfl) rfl ?_
    refine K_nil ?_
    refine Q_then ?_
    refine K_ret ?_
    refine results_gen (rs := [.tmp 2]) (vs := [_]) rfl ⟨rfl, trivial⟩ ?_
    first | (have h := hlen.2 (by omega); rw [decide_eq_true h]; rfl) | (have h := fun e => absurd (hlen.1 e) (by omega); rw [decide_eq_false h]; rfl)
  ·
    intro h6
    refine KV (R_assign rfl) rfl ?_
    refine K_nil ?_
    refine Q_then ?_
    refine K_ret ?_
    refine results_gen (rs := [.tmp 2]) (vs := [_]) rfl ⟨rfl, trivial⟩ ?_
    first | (have h := hlen.2 (by omega); rw [decide_eq_true h]; rfl) | (have h : ¬ x = 0 := fun e => absurd (hlen.1 e) (by omega); rw [decide_eq_false h]; rfl)
end Go.Proofs.X
