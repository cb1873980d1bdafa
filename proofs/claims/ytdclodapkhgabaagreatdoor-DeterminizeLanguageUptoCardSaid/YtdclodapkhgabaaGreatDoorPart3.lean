/-
  Part of the proof: rules for walks, contracts of the functions that the statements reach, plain laws. Own work. No statement of the seat is proved here.
-/
import Derived.Test.YtdclodapkhgabaaGreatDoorPart2
import Derived.Test.YtdclodapkhgabaaGreatDoorPalDl
import Derived.Test.YtdclodapkhgabaaGreatDoorPalTu
namespace Go.Proofs.X
open Go Pal Go.Proofs
attribute [local irreducible] Pal.KO Pal.KC Pal.KQ Pal.KD
theorem c2011 : callable Tryz.prog F2011 = true := by kernel_rfl
theorem c2040 : callable Tryz.prog F2040 = true := by kernel_rfl
theorem c2041 : callable Tryz.prog F2041 = true := by kernel_rfl
theorem acc1_spec (b : Nat) (v0 v1 v2 vf : Value) (F : List Int) (q : Int) (H : View) (hb : At H b 0 [v0, v1, v2, vf]) (hf : SI H vf F) (hl : F.length ≤ 1099511627776) : Sat Tryz.prog F2040 ([] ++ [Value.int .i64 q] ++ [ptr b]).toArray H (fun r _ => r = .bool (decide (q ∈ F))) := by
  have hb3 := hb.one (j := 3) rfl
  obtain ⟨fa, fc, rfl⟩ := hf.shape
  refine enterO (n := 8) (args := [.int .i64 q, ptr b]) Tryz.func59 rfl rfl rfl fun w0 => ?_
  refine K_seq ?_
  refine K_region ?_
  refine KV (R_assign rfl) rfl ?_
  refine K_nil ?_
  refine Q_then ?_
  refine K_seq ?_
  refine K_region ?_
  refine KV (R_fieldAddr 3 fd50_3 rfl) rfl ?_
  refine KV (R_loadH ty25 rfl (hb3) rfl (fun _ => rfl) rfl) rfl ?_
  refine KV (R_move rfl) rfl ?_
  refine K_call c2041 rfl rfl (containsI_spec q F _ H hf hl) ?_
  rintro _ V1 hv1 rfl
  refine KV (R_assign rfl) rfl ?_
  refine K_nil ?_
  refine Q_then ?_
  refine K_ret ?_
  refine results_gen (rs := [.tmp 3]) (vs := [_]) rfl ⟨rfl, trivial⟩ ?_
  rfl

theorem accepts_spec (a : Au) (vr vu vf : Value) (t : Tr) (cs : List Value) (H : View) (ha : RepAu H a vr vu vf) (hrk : a.ranks.length ≤ 1048576) (hr : RepT H t cs) (hb : t.size ≤ 1048576) : Sat Tryz.prog F2012 #[.agg #[vr, .int .i64 a.states, vu, vf], .agg cs.toArray] H (fun r _ => r = .bool (accA a t)) := by
  obtain ⟨ra, rcp, rfl⟩ := ha.r.shape
  obtain ⟨fa, fcp, rfl⟩ := ha.f.shape
  obtain ⟨ua, ucp, rfl⟩ := ha.ushape
  have hrl := ha.rl
  have hul := ha.ul
  have hfl := ha.fl
  obtain ⟨x0, x1, x2, x3, rfl⟩ := hr.shape
  refine enterO (n := 20) (args := [.agg #[.slice ra a.ranks.length rcp, .int .i64 a.states, .slice ua a.rules.length ucp, .slice fa a.final.length fcp], .agg #[.int .i64 x0, .slice x1 x2 x3]]) Tryz.func27 rfl rfl rfl fun w0 => ?_
  refine K_seq ?_
  refine K_region ?_
  refine KA (A_box rfl) rfl fun b2 => ?_
  refine KA (A_box rfl) rfl fun b3 => ?_
  refine KV (R_assign rfl) rfl ?_
  refine K_nil ?_
  refine KQ_front 1 rfl ?_
  refine KQ_pubF fun U hU hb2 => ?_
  try dsimp only [List.eraseIdx]
  refine Q_then ?_
  refine K_seq ?_
  have hb2A : At U b2 0 [.slice ra a.ranks.length rcp, .int .i64 a.states, .slice ua a.rules.length ucp, .slice fa a.final.length fcp] := At.of hb2
  refine K_region ?_
  refine KV (R_loadH ty50 rfl (hb2A) rfl (fun e => by cases e) rfl) rfl ?_
  refine KV (R_loadW ty30 0 rfl rfl rfl rfl) rfl ?_
  refine K_call c2011 rfl rfl (reach_spec a _ _ _ t _ U (ha.mono hU) hrk (hr.mono hU) hb) ?_
  rintro _ V1 hv1 ⟨v, rfl, hE1, hE2⟩
  refine KV (R_move rfl) rfl ?_
  refine KV (R_extract rfl rfl) rfl ?_
  refine KV (R_extract rfl rfl) rfl ?_
  refine KV (R_assign rfl) rfl ?_
  refine KV (R_assign rfl) rfl ?_
  refine K_nil ?_
  refine Q_then ?_
  refine K_seq ?_
  refine K_region ?_
  refine KV (R_move rfl) rfl ?_
  refine KV (R_cmp rfl rfl rfl) rfl ?_
  refine K_split ?_ ?_
  ·
    intro h14
    obtain ⟨L, hRe, hSI, hLl⟩ := hE2 h14
    obtain ⟨la, lc, rfl⟩ := hSI.shape
    refine KV (R_move rfl) rfl ?_
    refine K_gyes rfl rfl ?_
    refine KV (R_move rfl) rfl ?_
    refine K_gyes rfl rfl ?_
    refine KV (R_makeFunc rfl rfl) rfl ?_
    refine K_gyes rfl rfl ?_
    refine K_call c86 rfl rfl (sicon_spec F2040 [ptr b2] (fun q => decide (q ∈ a.final)) L _ V1 hSI (by omega) c2040 (fun x V hx hV => acc1_spec b2 _ _ _ _ a.final x V (hb2A.mono (hv1.trans hV)) (ha.mono (hU.trans (hv1.trans hV))).f hfl)) ?_
    rintro _ V2 hv2 rfl
    refine KV (R_pickT rfl rfl) rfl ?_
    refine KV (R_assign rfl) rfl ?_
    refine K_nil ?_
    refine Q_then ?_
    refine K_ret ?_
    refine results_gen (rs := [.tmp 4]) (vs := [_]) rfl ⟨rfl, trivial⟩ ?_
    unfold accA
    rw [h14, acc_any hRe]
    simp [tupV]
  ·
    intro h14
    refine KV (R_move rfl) rfl ?_
    refine K_gno rfl rfl rfl rfl ?_
    refine K_gno rfl rfl rfl rfl ?_
    refine K_gno rfl rfl rfl rfl ?_
    refine KV (R_pickF rfl rfl) rfl ?_
    refine KV (R_assign rfl) rfl ?_
    refine K_nil ?_
    refine Q_then ?_
    refine K_ret ?_
    refine results_gen (rs := [.tmp 4]) (vs := [_]) rfl ⟨rfl, trivial⟩ ?_
    unfold accA
    simp [tupV, h14]
end Go.Proofs.X

namespace Go.Proofs.X
open Go Pal Go.Proofs
attribute [local irreducible] Pal.KO Pal.KC Pal.KQ Pal.KD
theorem c71 : callable Tryz.prog F71 = true := by kernel_rfl
theorem reachable_spec (d : Dt) (hb : d.ranks.length ≤ 1048576 ∧ d.acc.length ≤ 1048576 ∧ d.to.length ≤ 1048576 ∧ ∀ x ∈ d.to, x.length ≤ 1048576) (hn64 : d.acc.length ≤ 64) (w1 w2 w3 : Value) (H : View) (hd : RepDt H d w1 w2 w3) : Sat Tryz.prog F2117 #[.agg #[w1, w2, w3]] H (fun r H' => ∃ v, r = .tuple #[v, .int .i64 (dtErr d)] ∧ (dtErr d = 0 → SB H' v (reachB d))) := by
  obtain ⟨ua1, uc1x, rfl⟩ := hd.r.shape
  obtain ⟨ua2, uc2x, rfl⟩ := hd.a.shape
  obtain ⟨ua3, uc3x, rfl⟩ := hd.t.shape
  refine enterO (n := 29) (args := [.agg #[.slice ua1 d.ranks.length uc1x, .slice ua2 d.acc.length uc2x, .slice ua3 d.to.length uc3x]]) Tryz.func25 rfl rfl rfl fun w0 => ?_
  refine K_seq ?_
  refine K_region ?_
  refine KA (A_box rfl) rfl fun b1 => ?_
  refine KV (R_assign rfl) rfl ?_
  refine KV (R_assign rfl) rfl ?_
  refine K_nil ?_
  refine Q_then ?_
  refine K_seq ?_
  refine K_seq ?_
  refine K_region ?_
  refine KV (R_loadO ty54 0 rfl rfl rfl rfl (fun e => by cases e) rfl) rfl ?_
  refine K_call c63 rfl rfl (dcheck_spec d _ _ _ H hd hb) ?_
  rintro _ V1 hv1 rfl
  refine KV (R_assign rfl) rfl ?_
  refine K_nil ?_
  refine Q_then ?_
  refine K_seq ?_
  refine K_region ?_
  refine KV (R_move rfl) rfl ?_
  refine KV (R_cmp rfl rfl rfl) rfl ?_
  refine K_nil ?_
  refine Q_then ?_
  refine K_if rfl (fun h11 => ?_) (fun h11 => ?_)
  ·
    refine K_seq ?_
    refine K_region ?_
    refine KV (R_move rfl) rfl ?_
    refine KV (R_assign rfl) rfl ?_
    refine KV (R_assign rfl) rfl ?_
    refine K_nil ?_
    refine Q_then ?_
    refine K_ret ?_
    refine Q_then_ret ?_
    refine results_gen (rs := [.tmp 2, .tmp 3]) (vs := [_, _]) rfl ⟨rfl, ⟨rfl, trivial⟩⟩ ?_
    exact ⟨nilS, rfl, fun h => absurd h h11⟩
  ·
    have hd0 : dtErr d = 0 := Decidable.not_not.1 h11
    have hok := DtOk.of hd0
    refine K_skip ?_
    refine Q_then ?_
    refine K_seq ?_
    refine K_region ?_
    refine KV (R_fieldAddr 1 fd54_1 rfl) rfl ?_
    refine KV (R_loadO ty52 0 rfl rfl rfl rfl (fun _ => rfl) rfl) rfl ?_
    refine KV (R_len sl52 rfl) rfl ?_
    refine KA (A_makeSlice ap52 z4 ty4 rfl rfl (by omega) (by omega)) rfl fun b16 => ?_
    refine KV (R_assign rfl) rfl ?_
    refine K_nil ?_
    rw [show madeCells (Value.bool false).cells (d.acc.length * 1) = marks d.acc.length [] from made_bools _]
    refine Q_then ?_
    refine K_seq ?_
    refine K_seq ?_
    refine K_region ?_
    refine KV (R_loadO ty54 1 rfl rfl rfl rfl (fun e => by cases e) rfl) rfl ?_
    refine K_call c71 rfl rfl (found_spec d hok hn64 _ _ _ V1 (hd.mono hv1)) ?_
    rintro ov V2 hv2 ⟨hov, hfo⟩
    obtain ⟨oa, oc, rfl⟩ := hov.shape
    have hol := hfo.len
    refine KV (R_len sl25 rfl) rfl ?_
    refine KV (R_move rfl) rfl ?_
    refine K_nil ?_
    refine Q_then ?_
    refine K_block ?_
    refine K_loopD (G := Nat) [7, 20, 21, 22, 23, 24, 25, 26, 27] (fun g => [(20, .int .i64 (g : Int))]) (fun hl g => (hl.set 0 (blk b16 (.cells (marks d.acc.length ((foundD d).take g)) T4 (0, 0))))) (fun g => V2) (fun g => (g ≤ (foundD d).length)) (fun g => (foundD d).length - g) (0 : Nat) (Nat.zero_le _) ⟨rfl, trivial⟩ (by simp only [args0, Nat.reduceAdd, del, memN, beqN, Nat.reduceBEq, cond_true, cond_false]; rfl) rfl rfl ?_
    rintro k hk
    try dsimp only at hk
    dsimp only [List.set, List.cons_append, List.nil_append]
    refine K_seq ?_
    refine K_region ?_
    refine KV (R_cmp rfl rfl rfl) rfl ?_
    refine K_nil ?_
    refine Q_then ?_
    refine K_seq ?_
    refine K_if rfl (fun h21 => ?_) (fun h21 => ?_)
    ·
      have hk' : k < (foundD d).length := by omega
      obtain ⟨tb, to_, hte, hta⟩ := hov.get hk'
      cases hte
      have hq := hfo.st _ (List.getElem_mem hk')
      refine K_skip ?_
      refine Q_then ?_
      refine K_seq ?_
      refine K_block ?_
      refine K_seq ?_
      refine K_region ?_
      refine KV (R_indexN sl25 ty3 rfl rfl (by omega)) rfl ?_
      refine KV (R_loadH ty3 rfl (hta) rfl (fun _ => rfl) rfl) rfl ?_
      refine KV (R_assign rfl) rfl ?_
      refine K_nil ?_
      refine Q_then ?_
      refine K_region ?_
      refine KV (R_move rfl) rfl ?_
      refine KV (R_move rfl) rfl ?_
      refine KV (R_index sl52 ty4 rfl rfl hq) rfl ?_
      refine K_storeE ty4 0 rfl rfl rfl rfl (by rw [marks_size]; show _ + 1 ≤ _; omega) rfl (marks_put hq (by omega)) ?_
      refine K_nil ?_
      refine Q_block ?_
      refine Q_then ?_
      refine K_region ?_
      refine KV (R_add rfl rfl (by omega)) rfl ?_
      refine KV (R_move rfl) rfl ?_
      refine K_nil ?_
      refine Q_nextD ((k + 1)) hk' (by (try dsimp only); omega) ⟨rfl, trivial⟩ rfl (by (try dsimp only [List.set]); rw [List.take_succ_eq_append_getElem hk']) rfl
    ·
      have hk' : k = (foundD d).length := by omega
      subst hk'
      rw [List.take_length]
      refine K_exit ?_
      refine Q_then_exit ?_
      refine Q_then_exit ?_
      refine Q_block_exit ?_
      refine Q_then ?_
      refine K_seq ?_
      refine K_region ?_
      refine KV (R_move rfl) rfl ?_
      refine KV (R_assign rfl) rfl ?_
      refine KV (R_assign rfl) rfl ?_
      refine K_nil ?_
      refine KQ_front 0 rfl ?_
      try dsimp only [List.eraseIdx]
      refine KQ_pubF fun Vz hvz hb16 => ?_
      skip
      refine Q_then ?_
      refine K_ret ?_
      refine results_gen (rs := [.tmp 2, .tmp 3]) (vs := [_, _]) rfl ⟨rfl, ⟨rfl, trivial⟩⟩ ?_
      rw [hd0]
      refine ⟨_, rfl, fun _ => ?_⟩
      show SlAt _ _ (reachB d).length _
      rw [reachB_len, ← reachB_marks]
      exact ⟨_, _, rfl, .inr ⟨b16, 0, rfl, At.of hb16⟩⟩
end Go.Proofs.X

namespace Go.Proofs.X
open Go Pal Go.Proofs
attribute [local irreducible] Pal.KO Pal.KC Pal.KQ Pal.KD
theorem c7 : callable Tryz.prog F7 = true := by kernel_rfl
theorem c15 : callable Tryz.prog F15 = true := by kernel_rfl
theorem c17 : callable Tryz.prog F17 = true := by kernel_rfl
theorem c20 : callable Tryz.prog F20 = true := by kernel_rfl
theorem c34 : callable Tryz.prog F34 = true := by kernel_rfl
theorem c40 : callable Tryz.prog F40 = true := by kernel_rfl
theorem c2012 : callable Tryz.prog F2012 = true := by kernel_rfl
theorem c2117 : callable Tryz.prog F2117 = true := by kernel_rfl
set_option maxHeartbeats 1000000 in
theorem language_law (a : Au) (t : Tr) (v1 v2 v3 : Value) (H : View) (cs : List Value) (hT : Tab H) (ha : RepAu H a v1 v2 v3) (hr : RepT H t cs) (hb : t.size ≤ 1048576) : Sat Tryz.prog F2112 #[.agg #[v1, .int .i64 a.states, v2, v3], .agg cs.toArray] H (fun v _ => v = .bool true) := by
  obtain ⟨ar, arc, rfl⟩ := ha.r.shape
  obtain ⟨af, afc, rfl⟩ := ha.f.shape
  obtain ⟨au, auc, rfl⟩ := ha.ushape
  obtain ⟨x0, x1, x2, x3, rfl⟩ := hr.shape
  refine enterO (n := 65) (args := [.agg #[.slice ar a.ranks.length arc, .int .i64 a.states, .slice au a.rules.length auc, .slice af a.final.length afc], .agg #[.int .i64 x0, .slice x1 x2 x3]]) Tryz.func4 rfl rfl rfl fun w0 => ?_
  refine K_seq ?_
  refine K_region ?_
  refine KA (A_box rfl) rfl fun b2 => ?_
  refine KA (A_box rfl) rfl fun b3 => ?_
  refine KV (R_assign rfl) rfl ?_
  refine K_nil ?_
  refine Q_then ?_
  refine K_seq ?_
  refine K_seq ?_
  refine K_region ?_
  refine K_call c7 rfl rfl (known_spec H hT) ?_
  rintro _ V1 hv1 rfl
  refine KV (R_not rfl) rfl ?_
  refine KV (R_move rfl) rfl ?_
  refine K_splitB ?_ ?_
  ·
    intro h13
    cases h13
  ·
    intro h13
    refine K_gyes rfl rfl ?_
    refine KV (R_loadW ty42 1 rfl rfl rfl rfl) rfl ?_
    refine K_gyes rfl rfl ?_
    refine K_call c15 rfl rfl (few_spec a _ _ _ V1 (ha.mono hv1)) ?_
    rintro _ V2 hv2 rfl
    refine K_gyes rfl rfl ?_
    refine KV (R_notP rfl) rfl ?_
    refine KV (R_pickF rfl rfl) rfl ?_
    refine KV (R_move rfl) rfl ?_
    refine K_split ?_ ?_
    ·
      intro h18
      refine K_gno rfl rfl rfl rfl ?_
      refine K_gno rfl rfl rfl rfl ?_
      refine K_gno rfl rfl rfl rfl ?_
      refine KV (R_pickT rfl rfl) rfl ?_
      refine KV (R_move rfl) rfl ?_
      refine K_gno rfl rfl rfl rfl ?_
      refine K_gno rfl rfl rfl rfl ?_
      refine K_gno rfl rfl rfl rfl ?_
      refine KV (R_pickT rfl rfl) rfl ?_
      refine K_nil ?_
      refine Q_then ?_
      refine K_ifT rfl ?_
      refine K_seq ?_
      refine K_region ?_
      refine K_call c7 rfl rfl (known_spec _ (hT.mono (by first | exact hv1 | exact hv1.trans hv2 | exact hv1.trans (hv2.trans hv3) | exact hv1.trans (hv2.trans (hv3.trans hv4))))) ?_
      rintro _ V9 hv9 rfl
      refine KV (R_assign rfl) rfl ?_
      refine K_nil ?_
      refine Q_then ?_
      refine K_ret ?_
      refine Q_then_ret ?_
      refine results_gen (rs := [.tmp 4]) (vs := [_]) rfl ⟨rfl, trivial⟩ ?_
      first | rfl | exact congrArg Value.bool (by simp) | exact congrArg Value.bool (decide_eq_true rfl)
    ·
      intro h18
      have hfew := Decidable.not_not.1 h18
      refine K_gyes rfl rfl ?_
      refine KV (R_loadW ty42 1 rfl rfl rfl rfl) rfl ?_
      refine K_gyes rfl rfl ?_
      refine K_call c20 rfl rfl (rcheck_spec a _ _ _ V2 (ha.mono (hv1.trans (hv2)))) ?_
      rintro _ V3 hv3 rfl
      refine K_gyes rfl rfl ?_
      refine KV (R_cmp rfl rfl rfl) rfl ?_
      refine KV (R_pickF rfl rfl) rfl ?_
      refine KV (R_move rfl) rfl ?_
      refine K_split ?_ ?_
      ·
        intro h23
        refine K_gno rfl rfl rfl rfl ?_
        refine K_gno rfl rfl rfl rfl ?_
        refine K_gno rfl rfl rfl rfl ?_
        refine KV (R_pickT rfl rfl) rfl ?_
        refine K_nil ?_
        refine Q_then ?_
        refine K_ifT rfl ?_
        refine K_seq ?_
        refine K_region ?_
        refine K_call c7 rfl rfl (known_spec _ (hT.mono (by first | exact hv1 | exact hv1.trans hv2 | exact hv1.trans (hv2.trans hv3) | exact hv1.trans (hv2.trans (hv3.trans hv4))))) ?_
        rintro _ V9 hv9 rfl
        refine KV (R_assign rfl) rfl ?_
        refine K_nil ?_
        refine Q_then ?_
        refine K_ret ?_
        refine Q_then_ret ?_
        refine results_gen (rs := [.tmp 4]) (vs := [_]) rfl ⟨rfl, trivial⟩ ?_
        first | rfl | exact congrArg Value.bool (by simp) | exact congrArg Value.bool (decide_eq_true rfl)
      ·
        intro h23
        refine K_gyes rfl rfl ?_
        refine KV (R_loadW ty24 0 rfl rfl rfl rfl) rfl ?_
        refine K_gyes rfl rfl ?_
        refine K_call c34 rfl rfl (short_spec t V3 _ (by omega) (hr.mono (hv1.trans (hv2.trans (hv3))))) ?_
        rintro _ V4 hv4 rfl
        refine K_gyes rfl rfl ?_
        refine KV (R_notP rfl) rfl ?_
        refine KV (R_pickF rfl rfl) rfl ?_
        refine K_nil ?_
        refine Q_then ?_
        refine K_if rfl (fun h27 => ?_) (fun h27 => ?_)
        ·
          refine K_seq ?_
          refine K_region ?_
          refine K_call c7 rfl rfl (known_spec _ (hT.mono (by first | exact hv1 | exact hv1.trans hv2 | exact hv1.trans (hv2.trans hv3) | exact hv1.trans (hv2.trans (hv3.trans hv4))))) ?_
          rintro _ V9 hv9 rfl
          refine KV (R_assign rfl) rfl ?_
          refine K_nil ?_
          refine Q_then ?_
          refine K_ret ?_
          refine Q_then_ret ?_
          refine results_gen (rs := [.tmp 4]) (vs := [_]) rfl ⟨rfl, trivial⟩ ?_
          first | rfl | exact congrArg Value.bool (by simp) | exact congrArg Value.bool (decide_eq_true rfl)
        ·
          have hsh := Decidable.not_not.1 h27
          have hae : auErr a = 0 := Decidable.not_not.1 h23
          obtain ⟨st, hcst, hst2⟩ := from_cons hae hfew.2.1
          have hbd := from_bounds hae hfew.2.1 hfew.1
          have hd0 := (from_ok hae hfew.2.1).err
          have hrl := reachB_len (refFrom a)
          refine K_skip ?_
          refine Q_then ?_
          refine K_seq ?_
          refine K_region ?_
          refine KV (R_loadW ty42 1 rfl rfl rfl rfl) rfl ?_
          refine K_call c17 rfl rfl (to_spec a _ _ _ V4 (ha.mono (hv1.trans (hv2.trans (hv3.trans (hv4)))))) ?_
          rintro _ V5 hv5 ⟨p1, p2, p3, rfl, hp⟩
          obtain ⟨yr, yrc, rfl⟩ := hp.r.shape
          obtain ⟨yf, yfc, rfl⟩ := hp.f.shape
          obtain ⟨yu, yuc, rfl⟩ := hp.ushape
          refine KA (A_alloc z50) rfl fun b5 => ?_
          refine K_storeW ty50 0 rfl rfl rfl rfl rfl rfl rfl ?_
          refine K_nil ?_
          refine Q_then ?_
          refine K_seq ?_
          refine K_region ?_
          refine KV (R_loadW ty50 0 rfl rfl rfl rfl) rfl ?_
          refine K_call c18 rfl rfl (fromNTA_spec a 64 _ _ _ V5 hp) ?_
          rintro _ V6 hv6 ⟨d1, d2, d3, rfl, hD⟩
          rw [hcst] at hD ⊢
          dsimp only at hD ⊢
          rw [hst2] at hD
          obtain ⟨wa1, wc1x, rfl⟩ := hD.r.shape
          obtain ⟨wa2, wc2x, rfl⟩ := hD.a.shape
          obtain ⟨wa3, wc3x, rfl⟩ := hD.t.shape
          refine KV (R_move rfl) rfl ?_
          refine KV (R_extract rfl rfl) rfl ?_
          refine KV (R_extract rfl rfl) rfl ?_
          refine KA (A_alloc z54) rfl fun b6 => ?_
          refine K_storeW ty54 0 rfl rfl rfl rfl rfl rfl rfl ?_
          refine KV (R_assign rfl) rfl ?_
          refine K_nil ?_
          refine Q_then ?_
          refine K_seq ?_
          refine K_seq ?_
          refine K_region ?_
          refine KV (R_move rfl) rfl ?_
          refine KV (R_cmp rfl rfl rfl) rfl ?_
          refine K_nil ?_
          refine Q_then ?_
          refine K_if rfl (fun h37 => ?_) (fun h37 => ?_)
          ·
            exact absurd rfl h37
          ·
            refine K_skip ?_
            refine Q_then ?_
            refine K_seq ?_
            refine K_region ?_
            refine KV (R_loadW ty54 0 rfl rfl rfl rfl) rfl ?_
            refine K_call c2117 rfl rfl (reachable_spec (refFrom a) hbd.2 hbd.1 _ _ _ V6 hD) ?_
            rintro _ V7 hv7 ⟨rv, rfl, hrB⟩
            have hR := hrB hd0
            rw [hd0]
            obtain ⟨ra, rcp, rfl⟩ := hR.shape
            refine KV (R_move rfl) rfl ?_
            refine KV (R_extract rfl rfl) rfl ?_
            refine KV (R_extract rfl rfl) rfl ?_
            refine KV (R_assign rfl) rfl ?_
            refine KV (R_assign rfl) rfl ?_
            refine K_nil ?_
            refine Q_then ?_
            refine K_seq ?_
            refine K_seq ?_
            refine K_region ?_
            refine KV (R_move rfl) rfl ?_
            refine KV (R_cmp rfl rfl rfl) rfl ?_
            refine K_nil ?_
            refine Q_then ?_
            refine K_if rfl (fun h44 => ?_) (fun h44 => ?_)
            ·
              exact absurd rfl h44
            ·
              refine K_skip ?_
              refine Q_then ?_
              refine K_seq ?_
              refine K_seq ?_
              refine K_region ?_
              refine KV (R_assign rfl) rfl ?_
              refine K_nil ?_
              refine Q_then ?_
              refine K_block ?_
              refine K_loopD (G := Nat) [4, 10, 45, 46, 47, 48, 49, 50, 51, 52, 53, 54, 55] (fun g => [(10, .int .i64 (g : Int))]) (fun hl g => hl) (fun g => V7) (fun g => (g ≤ (reachB (refFrom a)).length)) (fun g => (reachB (refFrom a)).length - g) (0 : Nat) (Nat.zero_le _) ⟨rfl, trivial⟩ (by simp only [args0, Nat.reduceAdd, del, memN, beqN, Nat.reduceBEq, cond_true, cond_false]; rfl) rfl rfl ?_
              rintro k hk
              try dsimp only at hk
              dsimp only [List.set, List.cons_append, List.nil_append]
              refine K_seq ?_
              refine K_seq ?_
              refine K_region ?_
              refine KV (R_move rfl) rfl ?_
              refine KV (R_move rfl) rfl ?_
              refine KV (R_len sl52 rfl) rfl ?_
              refine KV (R_cmp rfl rfl rfl) rfl ?_
              refine K_nil ?_
              refine Q_then ?_
              refine K_if rfl (fun h48 => ?_) (fun h48 => ?_)
              ·
                have hk' : k < (reachB (refFrom a)).length := by omega
                obtain ⟨tb, to_, hte, hta⟩ := hR.get hk'
                cases hte
                rw [reachB_all hae hfew.2.1 hk'] at hta
                refine K_skip ?_
                refine Q_then ?_
                refine K_seq ?_
                refine K_block ?_
                refine K_seq ?_
                refine K_region ?_
                refine KV (R_move rfl) rfl ?_
                refine KV (R_move rfl) rfl ?_
                refine KV (R_indexN sl52 ty4 rfl rfl (by omega)) rfl ?_
                refine KV (R_loadH ty4 rfl (hta) rfl (fun _ => rfl) rfl) rfl ?_
                refine KV (R_not rfl) rfl ?_
                refine K_nil ?_
                refine Q_then ?_
                refine K_ifB rfl (fun h55 => ?_) (fun h55 => ?_)
                ·
                  cases h55
                ·
                  refine K_skip ?_
                  refine Q_block ?_
                  refine Q_then ?_
                  refine K_region ?_
                  refine KV (R_move rfl) rfl ?_
                  refine KV (R_add rfl rfl (by omega)) rfl ?_
                  refine KV (R_assign rfl) rfl ?_
                  refine K_nil ?_
                  refine Q_nextD ((k + 1)) hk' (by (try dsimp only); omega) ⟨rfl, trivial⟩ rfl rfl rfl
              ·
                refine K_exit ?_
                refine Q_then_exit ?_
                refine Q_then_exit ?_
                refine Q_block_exit ?_
                refine Q_then ?_
                refine K_seq ?_
                refine K_regionD (fin := false) (R := [0, 1, 4, 5, 2, 3, 6, 7, 8, 9]) (by kernel_rfl) mixed (.cons_cons _ (.cons_cons _ (.cons_cons _ (.cons_cons _ (List.nil_sublist _))))) ?_
                refine D_val rfl rfl rfl (R_loadW ty54 0 rfl rfl rfl rfl) ?_
                refine D_val rfl rfl rfl (R_loadW ty24 2 rfl rfl rfl rfl) ?_
                refine D_val rfl rfl rfl (R_loadW ty50 1 rfl rfl rfl rfl) ?_
                refine D_val rfl rfl rfl (R_loadW ty24 2 rfl rfl rfl rfl) ?_
                refine D_call rfl rfl c11 rfl ⟨⟨0, rfl⟩, ⟨1, rfl⟩, ⟨2, rfl⟩, ⟨3, rfl⟩, trivial⟩ (tree_spec t.size t V7 _ (Nat.le_refl _) (by omega) (hr.mono (hv1.trans (hv2.trans (hv3.trans (hv4.trans (hv5.trans (hv6.trans (hv7))))))))) ?_
                rintro _ V8 hv8 ⟨ds, rfl, hds⟩
                obtain ⟨s0, s1, s2, s3, rfl⟩ := hds.shape
                refine D_call rfl rfl c40 rfl ⟨⟨0, rfl⟩, ⟨1, rfl⟩, ⟨2, rfl⟩, ⟨3, rfl⟩, trivial⟩ (daccepts_spec (refFrom a) _ _ _ t V8 _ hbd.2 (by omega) (hD.mono (hv7.trans hv8)) hds) ?_
                rintro _ V9 hv9 rfl
                rw [from_accepts hae hfew.2.1]
                refine D_call rfl rfl c11 rfl ⟨⟨0, rfl⟩, ⟨1, rfl⟩, ⟨2, rfl⟩, ⟨3, rfl⟩, trivial⟩ (tree_spec t.size t V9 _ (Nat.le_refl _) (by omega) (hr.mono (hv1.trans (hv2.trans (hv3.trans (hv4.trans (hv5.trans (hv6.trans (hv7.trans (hv8.trans (hv9))))))))))) ?_
                rintro _ V10 hv10 ⟨es, rfl, hes⟩
                obtain ⟨e0, e1, e2, e3, rfl⟩ := hes.shape
                refine D_call rfl rfl c2012 rfl ⟨⟨0, rfl⟩, ⟨1, rfl⟩, ⟨2, rfl⟩, ⟨3, rfl⟩, trivial⟩ (accepts_spec a _ _ _ t _ V10 (hp.mono (hv6.trans (hv7.trans (hv8.trans (hv9.trans (hv10)))))) (Nat.le_trans hfew.1 (by decide)) hes (by omega)) ?_
                rintro _ V11 hv11 rfl
                refine D_val rfl rfl rfl (R_boolEq (by kernel_rfl) rfl rfl) ?_
                refine D_val rfl rfl rfl (R_assign rfl) ?_
                refine D_done ?_
                refine Q_then ?_
                refine K_ret ?_
                refine results_gen (rs := [.tmp 4]) (vs := [_]) rfl ⟨rfl, trivial⟩ ?_
                first | rfl | exact congrArg Value.bool (by simp) | exact congrArg Value.bool (decide_eq_true rfl)
end Go.Proofs.X
