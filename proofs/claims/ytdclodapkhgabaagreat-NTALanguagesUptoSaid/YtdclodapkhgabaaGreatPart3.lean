/-
  Part of the proof: rules for walks, contracts of the functions that the statements reach, plain laws. Own work. No statement of the seat is proved here.
-/
import Derived.Test.YtdclodapkhgabaaGreatPalLa
import Derived.Test.YtdclodapkhgabaaGreatPart2
namespace Go.Proofs.X
open Go Pal Go.Proofs
attribute [local irreducible] Pal.KO Pal.KC Pal.KQ Pal.KD

set_option maxHeartbeats 1000000 in
theorem languages_core (a c : Au) (t : Tr) (v1 v2 v3 w1 w2 w3 : Value) (H : View) (cs : List Value) (ha : RepAu H a v1 v2 v3) (hc : RepAu H c v1 w2 w3) (hrr : a.ranks = c.ranks) (hw1 : ∃ q k p, w1 = .slice q k p) (hr : RepT H t cs) (hb : t.size ≤ 1048576) : Sat Tryz.prog F2007 #[.agg #[v1, .int .i64 a.states, v2, v3], .agg #[w1, .int .i64 c.states, w2, w3], .agg cs.toArray] H (fun v _ => v = .bool true) := by
  obtain ⟨wq, wk, wp, rfl⟩ := hw1
  obtain ⟨ar, arc, rfl⟩ := ha.r.shape
  obtain ⟨af, afc, rfl⟩ := ha.f.shape
  obtain ⟨au, auc, rfl⟩ := ha.ushape
  obtain ⟨cfa, cfcp, rfl⟩ := hc.f.shape
  obtain ⟨cua, cucp, rfl⟩ := hc.ushape
  obtain ⟨x0, x1, x2, x3, rfl⟩ := hr.shape
  refine enterO (n := 152) (args := [.agg #[.slice ar a.ranks.length arc, .int .i64 a.states, .slice au a.rules.length auc, .slice af a.final.length afc], .agg #[.slice wq wk wp, .int .i64 c.states, .slice cua c.rules.length cucp, .slice cfa c.final.length cfcp], .agg #[.int .i64 x0, .slice x1 x2 x3]]) Tryz.func10 rfl rfl rfl fun w0 => ?_
  refine K_seq ?_
  refine K_region ?_
  refine KA (A_box rfl) rfl fun b3 => ?_
  refine KA (A_box rfl) rfl fun b4 => ?_
  refine KA (A_box rfl) rfl fun b5 => ?_
  refine KV (R_assign rfl) rfl ?_
  refine K_nil ?_
  refine Q_then ?_
  refine K_seq ?_
  refine K_seq ?_
  refine K_region ?_
  refine K_call c2009 rfl rfl (known32_spec _) ?_
  rintro _ V1 hv1 rfl
  refine KV (R_not rfl) rfl ?_
  refine K_nil ?_
  refine Q_then ?_
  refine K_ifB rfl (fun h22 => ?_) (fun h22 => ?_)
  ·
    cases h22
  ·
    refine K_skip ?_
    refine Q_then ?_
    refine K_seq ?_
    refine K_region ?_
    refine KV (R_fieldAddr 0 fd42_0 rfl) rfl ?_
    refine KV (R_loadO ty25 2 rfl rfl rfl rfl (fun _ => rfl) rfl) rfl ?_
    refine KV (R_fieldAddr 0 fd42_0 rfl) rfl ?_
    refine K_store ty25 1 rfl rfl rfl rfl rfl rfl ?_
    refine K_nil ?_
    refine Q_then ?_
    refine K_seq ?_
    refine K_seq ?_
    refine K_region ?_
    refine KV (R_loadW ty42 2 rfl rfl rfl rfl) rfl ?_
    refine K_call c15 rfl rfl (few_spec a _ _ _ V1 (ha.mono hv1)) ?_
    rintro _ V2 hv2 rfl
    refine KV (R_notP rfl) rfl ?_
    refine KV (R_move rfl) rfl ?_
    refine K_split ?_ ?_
    ·
      intro h29
      refine K_gno rfl rfl rfl rfl ?_
      refine K_gno rfl rfl rfl rfl ?_
      refine K_gno rfl rfl rfl rfl ?_
      refine KV (R_pickT rfl rfl) rfl ?_
      refine KV (R_move rfl) rfl ?_
      refine K_gno rfl rfl rfl rfl ?_
      refine K_gno rfl rfl rfl rfl ?_
      refine K_gno rfl rfl rfl rfl ?_
      refine KV (R_pickT rfl rfl) rfl ?_
      refine KV (R_move rfl) rfl ?_
      refine K_gno rfl rfl rfl rfl ?_
      refine K_gno rfl rfl rfl rfl ?_
      refine K_gno rfl rfl rfl rfl ?_
      refine KV (R_pickT rfl rfl) rfl ?_
      refine KV (R_move rfl) rfl ?_
      refine K_gno rfl rfl rfl rfl ?_
      refine K_gno rfl rfl rfl rfl ?_
      refine K_gno rfl rfl rfl rfl ?_
      refine KV (R_pickT rfl rfl) rfl ?_
      refine KV (R_move rfl) rfl ?_
      refine K_gno rfl rfl rfl rfl ?_
      refine K_gno rfl rfl rfl rfl ?_
      refine K_gno rfl rfl rfl rfl ?_
      refine K_gno rfl rfl rfl rfl ?_
      refine K_gno rfl rfl rfl rfl ?_
      refine KV (R_pickT rfl rfl) rfl ?_
      refine K_nil ?_
      refine Q_then ?_
      refine K_ifT rfl ?_
      refine K_seq ?_
      refine K_region ?_
      refine KV (R_assign rfl) rfl ?_
      refine K_nil ?_
      refine Q_then ?_
      refine K_ret ?_
      refine Q_then_ret ?_
      refine results_gen (rs := [.tmp 6]) (vs := [_]) rfl ⟨rfl, trivial⟩ ?_
      first | rfl | exact congrArg Value.bool (by simp)
    ·
      intro h29
      have hfa := Decidable.not_not.1 h29
      refine K_gyes rfl rfl ?_
      refine KV (R_loadW ty42 1 rfl rfl rfl rfl) rfl ?_
      refine K_gyes rfl rfl ?_
      refine K_call c15 rfl rfl (few_spec c _ _ _ V2 (hc.mono (hv1.trans (hv2)))) ?_
      rintro _ V3 hv3 rfl
      refine K_gyes rfl rfl ?_
      refine KV (R_notP rfl) rfl ?_
      refine KV (R_pickF rfl rfl) rfl ?_
      refine KV (R_move rfl) rfl ?_
      refine K_split ?_ ?_
      ·
        intro h34
        refine K_gno rfl rfl rfl rfl ?_
        refine K_gno rfl rfl rfl rfl ?_
        refine K_gno rfl rfl rfl rfl ?_
        refine KV (R_pickT rfl rfl) rfl ?_
        refine KV (R_move rfl) rfl ?_
        refine K_gno rfl rfl rfl rfl ?_
        refine K_gno rfl rfl rfl rfl ?_
        refine K_gno rfl rfl rfl rfl ?_
        refine KV (R_pickT rfl rfl) rfl ?_
        refine KV (R_move rfl) rfl ?_
        refine K_gno rfl rfl rfl rfl ?_
        refine K_gno rfl rfl rfl rfl ?_
        refine K_gno rfl rfl rfl rfl ?_
        refine KV (R_pickT rfl rfl) rfl ?_
        refine KV (R_move rfl) rfl ?_
        refine K_gno rfl rfl rfl rfl ?_
        refine K_gno rfl rfl rfl rfl ?_
        refine K_gno rfl rfl rfl rfl ?_
        refine K_gno rfl rfl rfl rfl ?_
        refine K_gno rfl rfl rfl rfl ?_
        refine KV (R_pickT rfl rfl) rfl ?_
        refine K_nil ?_
        refine Q_then ?_
        refine K_ifT rfl ?_
        refine K_seq ?_
        refine K_region ?_
        refine KV (R_assign rfl) rfl ?_
        refine K_nil ?_
        refine Q_then ?_
        refine K_ret ?_
        refine Q_then_ret ?_
        refine results_gen (rs := [.tmp 6]) (vs := [_]) rfl ⟨rfl, trivial⟩ ?_
        first | rfl | exact congrArg Value.bool (by simp)
      ·
        intro h34
        have hfc := Decidable.not_not.1 h34
        refine K_gyes rfl rfl ?_
        refine KV (R_loadW ty24 0 rfl rfl rfl rfl) rfl ?_
        refine K_gyes rfl rfl ?_
        refine K_call c2010 rfl rfl (short32_spec t V3 _ (by omega) (hr.mono (hv1.trans (hv2.trans (hv3))))) ?_
        rintro _ V4 hv4 rfl
        refine K_gyes rfl rfl ?_
        refine KV (R_notP rfl) rfl ?_
        refine KV (R_pickF rfl rfl) rfl ?_
        refine KV (R_move rfl) rfl ?_
        refine K_split ?_ ?_
        ·
          intro h39
          refine K_gno rfl rfl rfl rfl ?_
          refine K_gno rfl rfl rfl rfl ?_
          refine K_gno rfl rfl rfl rfl ?_
          refine KV (R_pickT rfl rfl) rfl ?_
          refine KV (R_move rfl) rfl ?_
          refine K_gno rfl rfl rfl rfl ?_
          refine K_gno rfl rfl rfl rfl ?_
          refine K_gno rfl rfl rfl rfl ?_
          refine KV (R_pickT rfl rfl) rfl ?_
          refine KV (R_move rfl) rfl ?_
          refine K_gno rfl rfl rfl rfl ?_
          refine K_gno rfl rfl rfl rfl ?_
          refine K_gno rfl rfl rfl rfl ?_
          refine K_gno rfl rfl rfl rfl ?_
          refine K_gno rfl rfl rfl rfl ?_
          refine KV (R_pickT rfl rfl) rfl ?_
          refine K_nil ?_
          refine Q_then ?_
          refine K_ifT rfl ?_
          refine K_seq ?_
          refine K_region ?_
          refine KV (R_assign rfl) rfl ?_
          refine K_nil ?_
          refine Q_then ?_
          refine K_ret ?_
          refine Q_then_ret ?_
          refine results_gen (rs := [.tmp 6]) (vs := [_]) rfl ⟨rfl, trivial⟩ ?_
          first | rfl | exact congrArg Value.bool (by simp)
        ·
          intro h39
          have hsh := Decidable.not_not.1 h39
          refine K_gyes rfl rfl ?_
          refine KV (R_loadW ty42 2 rfl rfl rfl rfl) rfl ?_
          refine K_gyes rfl rfl ?_
          refine K_call c20 rfl rfl (rcheck_spec a _ _ _ V4 (ha.mono (hv1.trans (hv2.trans (hv3.trans (hv4)))))) ?_
          rintro _ V5 hv5 rfl
          refine K_gyes rfl rfl ?_
          refine KV (R_cmp rfl rfl rfl) rfl ?_
          refine KV (R_pickF rfl rfl) rfl ?_
          refine KV (R_move rfl) rfl ?_
          refine K_split ?_ ?_
          ·
            intro h44
            refine K_gno rfl rfl rfl rfl ?_
            refine K_gno rfl rfl rfl rfl ?_
            refine K_gno rfl rfl rfl rfl ?_
            refine KV (R_pickT rfl rfl) rfl ?_
            refine KV (R_move rfl) rfl ?_
            refine K_gno rfl rfl rfl rfl ?_
            refine K_gno rfl rfl rfl rfl ?_
            refine K_gno rfl rfl rfl rfl ?_
            refine K_gno rfl rfl rfl rfl ?_
            refine K_gno rfl rfl rfl rfl ?_
            refine KV (R_pickT rfl rfl) rfl ?_
            refine K_nil ?_
            refine Q_then ?_
            refine K_ifT rfl ?_
            refine K_seq ?_
            refine K_region ?_
            refine KV (R_assign rfl) rfl ?_
            refine K_nil ?_
            refine Q_then ?_
            refine K_ret ?_
            refine Q_then_ret ?_
            refine results_gen (rs := [.tmp 6]) (vs := [_]) rfl ⟨rfl, trivial⟩ ?_
            first | rfl | exact congrArg Value.bool (by simp)
          ·
            intro h44
            refine K_gyes rfl rfl ?_
            refine KV (R_loadW ty42 1 rfl rfl rfl rfl) rfl ?_
            refine K_gyes rfl rfl ?_
            refine K_call c20 rfl rfl (rcheck_spec c _ _ _ V5 (hc.mono (hv1.trans (hv2.trans (hv3.trans (hv4.trans (hv5))))))) ?_
            rintro _ V6 hv6 rfl
            refine K_gyes rfl rfl ?_
            refine KV (R_cmp rfl rfl rfl) rfl ?_
            refine KV (R_pickF rfl rfl) rfl ?_
            refine KV (R_move rfl) rfl ?_
            refine K_split ?_ ?_
            ·
              intro h49
              refine K_gno rfl rfl rfl rfl ?_
              refine K_gno rfl rfl rfl rfl ?_
              refine K_gno rfl rfl rfl rfl ?_
              refine K_gno rfl rfl rfl rfl ?_
              refine K_gno rfl rfl rfl rfl ?_
              refine KV (R_pickT rfl rfl) rfl ?_
              refine K_nil ?_
              refine Q_then ?_
              refine K_ifT rfl ?_
              refine K_seq ?_
              refine K_region ?_
              refine KV (R_assign rfl) rfl ?_
              refine K_nil ?_
              refine Q_then ?_
              refine K_ret ?_
              refine Q_then_ret ?_
              refine results_gen (rs := [.tmp 6]) (vs := [_]) rfl ⟨rfl, trivial⟩ ?_
              first | rfl | exact congrArg Value.bool (by simp)
            ·
              intro h49
              refine K_gyes rfl rfl ?_
              refine KV (R_fieldAddr 0 fd42_0 rfl) rfl ?_
              refine K_gyes rfl rfl ?_
              refine KV (R_loadO ty25 2 rfl rfl rfl rfl (fun _ => rfl) rfl) rfl ?_
              refine K_gyes rfl rfl ?_
              refine KV (R_loadW ty24 0 rfl rfl rfl rfl) rfl ?_
              refine K_gyes rfl rfl ?_
              refine K_call c39 rfl rfl (rvalid_spec a.ranks _ t V6 _ (Nat.le_trans (show a.ranks.length ≤ 8 from hfa.1) (by decide)) (by omega) (hr.mono (hv1.trans (hv2.trans (hv3.trans (hv4.trans (hv5.trans (hv6))))))) (ha.mono (hv1.trans (hv2.trans (hv3.trans (hv4.trans (hv5.trans (hv6))))))).r) ?_
              rintro _ V7 hv7 rfl
              refine K_gyes rfl rfl ?_
              refine KV (R_cmp rfl rfl rfl) rfl ?_
              refine KV (R_pickF rfl rfl) rfl ?_
              refine K_nil ?_
              refine Q_then ?_
              refine K_if rfl (fun h55 => ?_) (fun h55 => ?_)
              ·
                refine K_seq ?_
                refine K_region ?_
                refine KV (R_assign rfl) rfl ?_
                refine K_nil ?_
                refine Q_then ?_
                refine K_ret ?_
                refine Q_then_ret ?_
                refine results_gen (rs := [.tmp 6]) (vs := [_]) rfl ⟨rfl, trivial⟩ ?_
                first | rfl | exact congrArg Value.bool (by simp)
              ·
                have hae : auErr a = 0 := Decidable.not_not.1 h44
                have hce : auErr c = 0 := Decidable.not_not.1 h49
                have hval : validErr a.ranks t = 0 := Decidable.not_not.1 h55
                have hoA := AuOk.of hae
                have hoC := AuOk.of hce
                have hs : a.states + c.states ≤ 256 := by omega
                have hu : a.rules.length + c.rules.length ≤ 65536 := by omega
                have hu2 : a.rules.length * c.rules.length ≤ 65536 := Nat.le_trans (Nat.mul_le_mul hfa.2.2.1 hfc.2.2.1) (by decide)
                have hff : a.final.length * c.final.length ≤ 1048576 := Nat.le_trans (Nat.mul_le_mul hfa.2.2.2 hfc.2.2.2) (by decide)
                have hs2 : a.states * c.states ≤ 256 := by
                  have s1 := hoA.st
                  have s2 := hoC.st
                  have := Int.mul_le_mul hfa.2.1 hfc.2.1 s2.1 (by decide)
                  omega
                have htz : twoErr a c = 0 := by unfold twoErr; rw [if_neg (not_not_intro hae), if_neg (not_not_intro hce), if_pos hrr]
                have hrk8 : a.ranks.length ≤ 1048576 := Nat.le_trans hfa.1 (by decide)
                have hrk8c : c.ranks.length ≤ 1048576 := Nat.le_trans hfc.1 (by decide)
                have haskA : askErr a t = 0 := ask_ok hae hval
                have haskC : askErr c t = 0 := ask_ok hce (hrr ▸ hval)
                obtain ⟨hU0, haskU⟩ := acc_uni hae hce hrr hval hs hu
                obtain ⟨hI0, haskI⟩ := acc_int hae hce hrr hval hs2 hu2
                have hbA : numA a t < bigN := num_big hoA (by omega) (by omega)
                have hbC : numA c t < bigN := num_big hoC (by omega) (by omega)
                have hlA : numA a t ≤ 1264962048 := Nat.le_trans (num_le (u := 14) (f := 12) (k := 7) hfa.2.2.1 hfa.2.2.2 hsh.2 (by decide)) (by decide)
                have hlC : numA c t ≤ 1264962048 := Nat.le_trans (num_le (u := 14) (f := 12) (k := 7) hfc.2.2.1 hfc.2.2.2 hsh.2 (by decide)) (by decide)
                have hadd : numA a t + numA c t < 2 ^ 64 := by omega
                have hmul : numA a t * numA c t < 2 ^ 64 := Nat.lt_of_le_of_lt (Nat.mul_le_mul hlA hlC) (by decide)
                refine K_skip ?_
                refine Q_then ?_
                refine K_seq ?_
                refine K_regionD (fin := false) (R := [0, 2, 1, 3, 4, 5, 6, 7, 8, 9, 10]) (by kernel_rfl) mixed (.cons_cons _ (.cons_cons _ (.cons_cons _ (List.nil_sublist _)))) ?_
                refine D_val rfl rfl rfl (R_loadW ty42 2 rfl rfl rfl rfl) ?_
                refine D_val rfl rfl rfl (R_loadW ty42 1 rfl rfl rfl rfl) ?_
                refine D_call rfl rfl c17 rfl ⟨⟨0, rfl⟩, ⟨1, rfl⟩, ⟨2, rfl⟩, trivial⟩ (to_spec a _ _ _ V7 (ha.mono (hv1.trans (hv2.trans (hv3.trans (hv4.trans (hv5.trans (hv6.trans (hv7))))))))) ?_
                rintro _ V8 hv8 ⟨p1, p2, p3, rfl, hp⟩
                refine D_call rfl rfl c17 rfl ⟨⟨0, rfl⟩, ⟨1, rfl⟩, ⟨2, rfl⟩, trivial⟩ (to_spec c _ _ _ V8 (hc.mono (hv1.trans (hv2.trans (hv3.trans (hv4.trans (hv5.trans (hv6.trans (hv7.trans (hv8)))))))))) ?_
                rintro _ V9 hv9 ⟨q1, q2, q3, rfl, hq⟩
                refine D_call rfl rfl c2031 rfl ⟨⟨0, rfl⟩, ⟨1, rfl⟩, ⟨2, rfl⟩, trivial⟩ (union_spec a c _ _ _ _ _ _ V9 (hp.mono hv9) hq hs hu) ?_
                rintro _ V10 hv10 ⟨n1, n2, n3, rfl, hB⟩
                rw [htz, errAu_ok rfl] at hB ⊢
                obtain ⟨br, brc, rfl⟩ := hB.r.shape
                obtain ⟨bf, bfc, rfl⟩ := hB.f.shape
                obtain ⟨bu, buc, rfl⟩ := hB.ushape
                refine D_val rfl rfl rfl (R_move rfl) ?_
                refine D_val rfl rfl rfl (R_extract rfl rfl) ?_
                refine D_val rfl rfl rfl (R_extract rfl rfl) ?_
                refine D_alloc rfl rfl rfl (A_alloc z50) fun b7 => ?_
                refine D_storeW ty50 0 rfl rfl rfl rfl rfl ⟨⟨0, rfl⟩, ⟨1, rfl⟩, ⟨2, rfl⟩, trivial⟩ rfl rfl rfl rfl ?_
                refine D_val rfl rfl rfl (R_assign rfl) ?_
                refine D_done ?_
                refine Q_then ?_
                refine K_seq ?_
                refine K_regionD (fin := false) (R := [0, 2, 1, 3, 4, 5, 6, 7, 8, 9, 10]) (by kernel_rfl) mixed (.cons_cons _ (.cons_cons _ (.cons_cons _ (.cons_cons _ (List.nil_sublist _))))) ?_
                refine D_val rfl rfl rfl (R_loadW ty42 3 rfl rfl rfl rfl) ?_
                refine D_val rfl rfl rfl (R_loadW ty42 2 rfl rfl rfl rfl) ?_
                refine D_call rfl rfl c17 rfl ⟨⟨0, rfl⟩, ⟨1, rfl⟩, ⟨2, rfl⟩, ⟨3, rfl⟩, trivial⟩ (to_spec a _ _ _ V10 (ha.mono (hv1.trans (hv2.trans (hv3.trans (hv4.trans (hv5.trans (hv6.trans (hv7.trans (hv8.trans (hv9.trans (hv10)))))))))))) ?_
                rintro _ V11 hv11 ⟨p1, p2, p3, rfl, hp⟩
                refine D_call rfl rfl c17 rfl ⟨⟨0, rfl⟩, ⟨1, rfl⟩, ⟨2, rfl⟩, ⟨3, rfl⟩, trivial⟩ (to_spec c _ _ _ V11 (hc.mono (hv1.trans (hv2.trans (hv3.trans (hv4.trans (hv5.trans (hv6.trans (hv7.trans (hv8.trans (hv9.trans (hv10.trans (hv11))))))))))))) ?_
                rintro _ V12 hv12 ⟨q1, q2, q3, rfl, hq⟩
                refine D_call rfl rfl c2032 rfl ⟨⟨0, rfl⟩, ⟨1, rfl⟩, ⟨2, rfl⟩, ⟨3, rfl⟩, trivial⟩ (inter_spec a c _ _ _ _ _ _ V12 (hp.mono hv12) hq (fun _ => hs2) hu2 hff) ?_
                rintro _ V13 hv13 ⟨m1, m2, m3, rfl, hD⟩
                rw [htz, errAu_ok rfl] at hD ⊢
                obtain ⟨dr, drc, rfl⟩ := hD.r.shape
                obtain ⟨df, dfc, rfl⟩ := hD.f.shape
                obtain ⟨du, duc, rfl⟩ := hD.ushape
                refine D_val rfl rfl rfl (R_move rfl) ?_
                refine D_val rfl rfl rfl (R_extract rfl rfl) ?_
                refine D_val rfl rfl rfl (R_extract rfl rfl) ?_
                refine D_alloc rfl rfl rfl (A_alloc z50) fun b9 => ?_
                refine D_storeW ty50 0 rfl rfl rfl rfl rfl ⟨⟨0, rfl⟩, ⟨1, rfl⟩, ⟨2, rfl⟩, ⟨3, rfl⟩, trivial⟩ rfl rfl rfl rfl ?_
                refine D_val rfl rfl rfl (R_assign rfl) ?_
                refine D_done ?_
                refine Q_then ?_
                refine K_seq ?_
                refine K_seq ?_
                refine K_region ?_
                refine KV (R_move rfl) rfl ?_
                refine KV (R_cmp rfl rfl rfl) rfl ?_
                refine KV (R_move rfl) rfl ?_
                refine K_split ?_ ?_
                ·
                  intro h74
                  exact absurd rfl h74
                ·
                  intro h74
                  refine K_gyes rfl rfl ?_
                  refine KV (R_move rfl) rfl ?_
                  refine K_gyes rfl rfl ?_
                  refine KV (R_cmp rfl rfl rfl) rfl ?_
                  refine KV (R_pickF rfl rfl) rfl ?_
                  refine K_nil ?_
                  refine Q_then ?_
                  refine K_if rfl (fun h77 => ?_) (fun h77 => ?_)
                  ·
                    exact absurd rfl h77
                  ·
                    refine K_skip ?_
                    refine Q_then ?_
                    refine K_seq ?_
                    refine K_regionD (fin := false) (R := [0, 2, 5, 7, 1, 3, 4, 6, 8, 9, 10, 11]) (by kernel_rfl) mixed (.cons_cons _ (.cons_cons _ (.cons_cons _ (.cons_cons _ (.cons_cons _ (List.nil_sublist _)))))) ?_
                    refine D_val rfl rfl rfl (R_loadW ty42 4 rfl rfl rfl rfl) ?_
                    refine D_val rfl rfl rfl (R_loadW ty24 2 rfl rfl rfl rfl) ?_
                    refine D_val rfl rfl rfl (R_loadW ty42 3 rfl rfl rfl rfl) ?_
                    refine D_val rfl rfl rfl (R_loadW ty24 2 rfl rfl rfl rfl) ?_
                    refine D_call rfl rfl c17 rfl ⟨⟨0, rfl⟩, ⟨1, rfl⟩, ⟨2, rfl⟩, ⟨3, rfl⟩, ⟨4, rfl⟩, trivial⟩ (to_spec a _ _ _ V13 (ha.mono (hv1.trans (hv2.trans (hv3.trans (hv4.trans (hv5.trans (hv6.trans (hv7.trans (hv8.trans (hv9.trans (hv10.trans (hv11.trans (hv12.trans (hv13))))))))))))))) ?_
                    rintro _ V14 hv14 ⟨p1, p2, p3, rfl, hp⟩
                    refine D_call rfl rfl c11 rfl ⟨⟨0, rfl⟩, ⟨1, rfl⟩, ⟨2, rfl⟩, ⟨3, rfl⟩, ⟨4, rfl⟩, trivial⟩ (tree_spec t.size t V14 _ (Nat.le_refl _) (by omega) (hr.mono (hv1.trans (hv2.trans (hv3.trans (hv4.trans (hv5.trans (hv6.trans (hv7.trans (hv8.trans (hv9.trans (hv10.trans (hv11.trans (hv12.trans (hv13.trans (hv14)))))))))))))))) ?_
                    rintro _ V15 hv15 ⟨dt, rfl, ht⟩
                    obtain ⟨t0, t1, t2, t3, rfl⟩ := ht.shape
                    refine D_call rfl rfl c2012 rfl ⟨⟨0, rfl⟩, ⟨1, rfl⟩, ⟨2, rfl⟩, ⟨3, rfl⟩, ⟨4, rfl⟩, trivial⟩ (accepts_spec a _ _ _ t _ V15 (hp.mono hv15) hrk8 ht (by omega)) ?_
                    rintro _ V16 hv16 rfl
                    refine D_call rfl rfl c17 rfl ⟨⟨0, rfl⟩, ⟨1, rfl⟩, ⟨2, rfl⟩, ⟨3, rfl⟩, ⟨4, rfl⟩, trivial⟩ (to_spec c _ _ _ V16 (hc.mono (hv1.trans (hv2.trans (hv3.trans (hv4.trans (hv5.trans (hv6.trans (hv7.trans (hv8.trans (hv9.trans (hv10.trans (hv11.trans (hv12.trans (hv13.trans (hv14.trans (hv15.trans (hv16)))))))))))))))))) ?_
                    rintro _ V17 hv17 ⟨q1, q2, q3, rfl, hq⟩
                    refine D_call rfl rfl c11 rfl ⟨⟨0, rfl⟩, ⟨1, rfl⟩, ⟨2, rfl⟩, ⟨3, rfl⟩, ⟨4, rfl⟩, trivial⟩ (tree_spec t.size t V17 _ (Nat.le_refl _) (by omega) (hr.mono (hv1.trans (hv2.trans (hv3.trans (hv4.trans (hv5.trans (hv6.trans (hv7.trans (hv8.trans (hv9.trans (hv10.trans (hv11.trans (hv12.trans (hv13.trans (hv14.trans (hv15.trans (hv16.trans (hv17))))))))))))))))))) ?_
                    rintro _ V18 hv18 ⟨ds, rfl, hs⟩
                    obtain ⟨s0, s1, s2, s3, rfl⟩ := hs.shape
                    refine D_call rfl rfl c2012 rfl ⟨⟨0, rfl⟩, ⟨1, rfl⟩, ⟨2, rfl⟩, ⟨3, rfl⟩, ⟨4, rfl⟩, trivial⟩ (accepts_spec c _ _ _ t _ V18 (hq.mono hv18) hrk8c hs (by omega)) ?_
                    rintro _ V19 hv19 rfl
                    refine D_val rfl rfl rfl (R_assign rfl) ?_
                    refine D_val rfl rfl rfl (R_assign rfl) ?_
                    refine D_done ?_
                    refine Q_then ?_
                    refine K_seq ?_
                    refine K_regionD (fin := false) (R := [0, 2, 1, 3, 4, 5, 6, 7, 8, 9, 10]) (by kernel_rfl) mixed (.cons_cons _ (.cons_cons _ (.cons_cons _ (.cons_cons _ (.cons_cons _ (List.nil_sublist _)))))) ?_
                    refine D_val rfl rfl rfl (R_loadW ty42 4 rfl rfl rfl rfl) ?_
                    refine D_val rfl rfl rfl (R_loadW ty24 2 rfl rfl rfl rfl) ?_
                    refine D_call rfl rfl c17 rfl ⟨⟨0, rfl⟩, ⟨1, rfl⟩, ⟨2, rfl⟩, ⟨3, rfl⟩, ⟨4, rfl⟩, trivial⟩ (to_spec a _ _ _ V19 (ha.mono (hv1.trans (hv2.trans (hv3.trans (hv4.trans (hv5.trans (hv6.trans (hv7.trans (hv8.trans (hv9.trans (hv10.trans (hv11.trans (hv12.trans (hv13.trans (hv14.trans (hv15.trans (hv16.trans (hv17.trans (hv18.trans (hv19))))))))))))))))))))) ?_
                    rintro _ V20 hv20 ⟨p1, p2, p3, rfl, hp⟩
                    refine D_call rfl rfl c11 rfl ⟨⟨0, rfl⟩, ⟨1, rfl⟩, ⟨2, rfl⟩, ⟨3, rfl⟩, ⟨4, rfl⟩, trivial⟩ (tree_spec t.size t V20 _ (Nat.le_refl _) (by omega) (hr.mono (hv1.trans (hv2.trans (hv3.trans (hv4.trans (hv5.trans (hv6.trans (hv7.trans (hv8.trans (hv9.trans (hv10.trans (hv11.trans (hv12.trans (hv13.trans (hv14.trans (hv15.trans (hv16.trans (hv17.trans (hv18.trans (hv19.trans (hv20)))))))))))))))))))))) ?_
                    rintro _ V21 hv21 ⟨dt, rfl, ht⟩
                    obtain ⟨t0, t1, t2, t3, rfl⟩ := ht.shape
                    refine D_call rfl rfl c2016 rfl ⟨⟨0, rfl⟩, ⟨1, rfl⟩, ⟨2, rfl⟩, ⟨3, rfl⟩, ⟨4, rfl⟩, trivial⟩ (countruns_spec (a) _ _ _ t _ V21 (hp.mono hv21) hrk8 ht (by omega)) ?_
                    rintro _ V22 hv22 ⟨nA, rfl, _, hKA⟩
                    obtain ⟨Aa, Ak, Aw, rfl, hNA⟩ := hKA (haskA)
                    rw [show cntA (a) t (sortI (a).final) = numA a t from rfl] at hNA
                    refine D_val rfl rfl rfl (R_move rfl) ?_
                    refine D_val rfl rfl rfl (R_extract rfl rfl) ?_
                    refine D_val rfl rfl rfl (R_extract rfl rfl) ?_
                    refine D_alloc rfl rfl rfl (A_alloc z2009) fun b13 => ?_
                    refine D_storeW ty2009 0 rfl rfl rfl rfl rfl ⟨⟨0, rfl⟩, ⟨1, rfl⟩, ⟨2, rfl⟩, ⟨3, rfl⟩, ⟨4, rfl⟩, trivial⟩ rfl rfl rfl rfl ?_
                    refine D_val rfl rfl rfl (R_assign rfl) ?_
                    refine D_done ?_
                    refine Q_then ?_
                    refine K_seq ?_
                    refine K_regionD (fin := false) (R := [0, 2, 1, 3, 4, 5, 6, 7, 8, 9, 10]) (by kernel_rfl) mixed (.cons_cons _ (.cons_cons _ (.cons_cons _ (.cons_cons _ (.cons_cons _ (.cons_cons _ (List.nil_sublist _))))))) ?_
                    refine D_val rfl rfl rfl (R_loadW ty42 4 rfl rfl rfl rfl) ?_
                    refine D_val rfl rfl rfl (R_loadW ty24 3 rfl rfl rfl rfl) ?_
                    refine D_call rfl rfl c17 rfl ⟨⟨0, rfl⟩, ⟨1, rfl⟩, ⟨2, rfl⟩, ⟨3, rfl⟩, ⟨4, rfl⟩, ⟨5, rfl⟩, trivial⟩ (to_spec c _ _ _ V22 (hc.mono (hv1.trans (hv2.trans (hv3.trans (hv4.trans (hv5.trans (hv6.trans (hv7.trans (hv8.trans (hv9.trans (hv10.trans (hv11.trans (hv12.trans (hv13.trans (hv14.trans (hv15.trans (hv16.trans (hv17.trans (hv18.trans (hv19.trans (hv20.trans (hv21.trans (hv22)))))))))))))))))))))))) ?_
                    rintro _ V23 hv23 ⟨q1, q2, q3, rfl, hq⟩
                    refine D_call rfl rfl c11 rfl ⟨⟨0, rfl⟩, ⟨1, rfl⟩, ⟨2, rfl⟩, ⟨3, rfl⟩, ⟨4, rfl⟩, ⟨5, rfl⟩, trivial⟩ (tree_spec t.size t V23 _ (Nat.le_refl _) (by omega) (hr.mono (hv1.trans (hv2.trans (hv3.trans (hv4.trans (hv5.trans (hv6.trans (hv7.trans (hv8.trans (hv9.trans (hv10.trans (hv11.trans (hv12.trans (hv13.trans (hv14.trans (hv15.trans (hv16.trans (hv17.trans (hv18.trans (hv19.trans (hv20.trans (hv21.trans (hv22.trans (hv23))))))))))))))))))))))))) ?_
                    rintro _ V24 hv24 ⟨dt, rfl, ht⟩
                    obtain ⟨t0, t1, t2, t3, rfl⟩ := ht.shape
                    refine D_call rfl rfl c2016 rfl ⟨⟨0, rfl⟩, ⟨1, rfl⟩, ⟨2, rfl⟩, ⟨3, rfl⟩, ⟨4, rfl⟩, ⟨5, rfl⟩, trivial⟩ (countruns_spec (c) _ _ _ t _ V24 (hq.mono hv24) hrk8c ht (by omega)) ?_
                    rintro _ V25 hv25 ⟨nC, rfl, _, hKC⟩
                    obtain ⟨Ca, Ck, Cw, rfl, hNC⟩ := hKC (haskC)
                    rw [show cntA (c) t (sortI (c).final) = numA c t from rfl] at hNC
                    refine D_val rfl rfl rfl (R_move rfl) ?_
                    refine D_val rfl rfl rfl (R_extract rfl rfl) ?_
                    refine D_val rfl rfl rfl (R_extract rfl rfl) ?_
                    refine D_alloc rfl rfl rfl (A_alloc z2009) fun b15 => ?_
                    refine D_storeW ty2009 0 rfl rfl rfl rfl rfl ⟨⟨0, rfl⟩, ⟨1, rfl⟩, ⟨2, rfl⟩, ⟨3, rfl⟩, ⟨4, rfl⟩, ⟨5, rfl⟩, trivial⟩ rfl rfl rfl rfl ?_
                    refine D_val rfl rfl rfl (R_assign rfl) ?_
                    refine D_done ?_
                    refine Q_then ?_
                    refine K_seq ?_
                    refine K_regionD (fin := false) (R := [0, 1, 2, 3, 4, 5, 6, 7, 8, 9]) (by kernel_rfl) mixed (.cons_cons _ (.cons_cons _ (.cons_cons _ (.cons_cons _ (.cons_cons _ (.cons_cons _ (.cons_cons _ (List.nil_sublist _)))))))) ?_
                    refine D_val rfl rfl rfl (R_loadW ty50 3 rfl rfl rfl rfl) ?_
                    refine D_val rfl rfl rfl (R_loadW ty24 4 rfl rfl rfl rfl) ?_
                    refine D_call rfl rfl c11 rfl ⟨⟨0, rfl⟩, ⟨1, rfl⟩, ⟨2, rfl⟩, ⟨3, rfl⟩, ⟨4, rfl⟩, ⟨5, rfl⟩, ⟨6, rfl⟩, trivial⟩ (tree_spec t.size t V25 _ (Nat.le_refl _) (by omega) (hr.mono (hv1.trans (hv2.trans (hv3.trans (hv4.trans (hv5.trans (hv6.trans (hv7.trans (hv8.trans (hv9.trans (hv10.trans (hv11.trans (hv12.trans (hv13.trans (hv14.trans (hv15.trans (hv16.trans (hv17.trans (hv18.trans (hv19.trans (hv20.trans (hv21.trans (hv22.trans (hv23.trans (hv24.trans (hv25))))))))))))))))))))))))))) ?_
                    rintro _ V26 hv26 ⟨dt, rfl, ht⟩
                    obtain ⟨t0, t1, t2, t3, rfl⟩ := ht.shape
                    refine D_call rfl rfl c2016 rfl ⟨⟨0, rfl⟩, ⟨1, rfl⟩, ⟨2, rfl⟩, ⟨3, rfl⟩, ⟨4, rfl⟩, ⟨5, rfl⟩, ⟨6, rfl⟩, trivial⟩ (countruns_spec (normA (uniA a c)) _ _ _ t _ V26 (hB.mono (hv11.trans (hv12.trans (hv13.trans (hv14.trans (hv15.trans (hv16.trans (hv17.trans (hv18.trans (hv19.trans (hv20.trans (hv21.trans (hv22.trans (hv23.trans (hv24.trans (hv25.trans (hv26))))))))))))))))) hrk8 ht (by omega)) ?_
                    rintro _ V27 hv27 ⟨nU, rfl, _, hKU⟩
                    obtain ⟨Ua, Uk, Uw, rfl, hNU⟩ := hKU (haskU)
                    rw [show cntA (normA (uniA a c)) t (sortI (normA (uniA a c)).final) = numA a t + numA c t from cnt_uni hoA hoC t] at hNU
                    refine D_val rfl rfl rfl (R_move rfl) ?_
                    refine D_val rfl rfl rfl (R_extract rfl rfl) ?_
                    refine D_val rfl rfl rfl (R_extract rfl rfl) ?_
                    refine D_alloc rfl rfl rfl (A_alloc z2009) fun b17 => ?_
                    refine D_storeW ty2009 0 rfl rfl rfl rfl rfl ⟨⟨0, rfl⟩, ⟨1, rfl⟩, ⟨2, rfl⟩, ⟨3, rfl⟩, ⟨4, rfl⟩, ⟨5, rfl⟩, ⟨6, rfl⟩, trivial⟩ rfl rfl rfl rfl ?_
                    refine D_val rfl rfl rfl (R_assign rfl) ?_
                    refine D_done ?_
                    refine Q_then ?_
                    refine K_seq ?_
                    refine K_regionD (fin := false) (R := [0, 1, 2, 3, 4, 5, 6, 7, 8, 9]) (by kernel_rfl) mixed (.cons_cons _ (.cons_cons _ (.cons_cons _ (.cons_cons _ (.cons_cons _ (.cons_cons _ (.cons_cons _ (.cons_cons _ (List.nil_sublist _))))))))) ?_
                    refine D_val rfl rfl rfl (R_loadW ty50 3 rfl rfl rfl rfl) ?_
                    refine D_val rfl rfl rfl (R_loadW ty24 5 rfl rfl rfl rfl) ?_
                    refine D_call rfl rfl c11 rfl ⟨⟨0, rfl⟩, ⟨1, rfl⟩, ⟨2, rfl⟩, ⟨3, rfl⟩, ⟨4, rfl⟩, ⟨5, rfl⟩, ⟨6, rfl⟩, ⟨7, rfl⟩, trivial⟩ (tree_spec t.size t V27 _ (Nat.le_refl _) (by omega) (hr.mono (hv1.trans (hv2.trans (hv3.trans (hv4.trans (hv5.trans (hv6.trans (hv7.trans (hv8.trans (hv9.trans (hv10.trans (hv11.trans (hv12.trans (hv13.trans (hv14.trans (hv15.trans (hv16.trans (hv17.trans (hv18.trans (hv19.trans (hv20.trans (hv21.trans (hv22.trans (hv23.trans (hv24.trans (hv25.trans (hv26.trans (hv27))))))))))))))))))))))))))))) ?_
                    rintro _ V28 hv28 ⟨dt, rfl, ht⟩
                    obtain ⟨t0, t1, t2, t3, rfl⟩ := ht.shape
                    refine D_call rfl rfl c2016 rfl ⟨⟨0, rfl⟩, ⟨1, rfl⟩, ⟨2, rfl⟩, ⟨3, rfl⟩, ⟨4, rfl⟩, ⟨5, rfl⟩, ⟨6, rfl⟩, ⟨7, rfl⟩, trivial⟩ (countruns_spec (normA (intA a c)) _ _ _ t _ V28 (hD.mono (hv14.trans (hv15.trans (hv16.trans (hv17.trans (hv18.trans (hv19.trans (hv20.trans (hv21.trans (hv22.trans (hv23.trans (hv24.trans (hv25.trans (hv26.trans (hv27.trans (hv28)))))))))))))))) hrk8 ht (by omega)) ?_
                    rintro _ V29 hv29 ⟨nI, rfl, _, hKI⟩
                    obtain ⟨Ia, Ik, Iw, rfl, hNI⟩ := hKI (haskI)
                    rw [show cntA (normA (intA a c)) t (sortI (normA (intA a c)).final) = numA a t * numA c t from cnt_int hoA hoC hrr t] at hNI
                    refine D_val rfl rfl rfl (R_move rfl) ?_
                    refine D_val rfl rfl rfl (R_extract rfl rfl) ?_
                    refine D_val rfl rfl rfl (R_extract rfl rfl) ?_
                    refine D_alloc rfl rfl rfl (A_alloc z2009) fun b19 => ?_
                    refine D_storeW ty2009 0 rfl rfl rfl rfl rfl ⟨⟨0, rfl⟩, ⟨1, rfl⟩, ⟨2, rfl⟩, ⟨3, rfl⟩, ⟨4, rfl⟩, ⟨5, rfl⟩, ⟨6, rfl⟩, ⟨7, rfl⟩, trivial⟩ rfl rfl rfl rfl ?_
                    refine D_val rfl rfl rfl (R_assign rfl) ?_
                    refine D_done ?_
                    refine Q_then ?_
                    refine K_seq ?_
                    rcases haA : accA a t with _ | _ <;> rcases haC : accA c t with _ | _
                    ·
                      have haccU : accA (normA (uniA a c)) t = false := by rw [hU0, haA, haC]; rfl
                      have haccI : accA (normA (intA a c)) t = false := by rw [hI0, haA, haC]; rfl
                      refine K_regionD (fin := false) (R := [0, 1, 4, 2, 3, 5, 6, 7, 8, 9, 10, 11, 14, 12, 13, 15, 16, 17, 18, 19, 20, 21, 22, 23, 24, 25, 26, 27, 28, 29, 30, 31, 32, 33, 34]) (by kernel_rfl) mixed (.cons_cons _ (.cons_cons _ (.cons_cons _ (.cons_cons _ (.cons_cons _ (.cons_cons _ (.cons_cons _ (.cons_cons _ (.cons_cons _ (List.nil_sublist _)))))))))) ?_
                      refine D_val rfl rfl rfl (R_loadW ty50 5 rfl rfl rfl rfl) ?_
                      refine D_val rfl rfl rfl (R_loadW ty24 6 rfl rfl rfl rfl) ?_
                      refine D_val rfl rfl rfl (R_move rfl) ?_
                      refine D_call rfl rfl c11 rfl ⟨⟨0, rfl⟩, ⟨1, rfl⟩, ⟨2, rfl⟩, ⟨3, rfl⟩, ⟨4, rfl⟩, ⟨5, rfl⟩, ⟨6, rfl⟩, ⟨7, rfl⟩, ⟨8, rfl⟩, trivial⟩ (tree_spec t.size t V29 _ (Nat.le_refl _) (by omega) (hr.mono (hv1.trans (hv2.trans (hv3.trans (hv4.trans (hv5.trans (hv6.trans (hv7.trans (hv8.trans (hv9.trans (hv10.trans (hv11.trans (hv12.trans (hv13.trans (hv14.trans (hv15.trans (hv16.trans (hv17.trans (hv18.trans (hv19.trans (hv20.trans (hv21.trans (hv22.trans (hv23.trans (hv24.trans (hv25.trans (hv26.trans (hv27.trans (hv28.trans (hv29))))))))))))))))))))))))))))))) ?_
                      rintro _ V30 hv30 ⟨dt, rfl, ht⟩
                      obtain ⟨t0, t1, t2, t3, rfl⟩ := ht.shape
                      refine D_call rfl rfl c2012 rfl ⟨⟨0, rfl⟩, ⟨1, rfl⟩, ⟨2, rfl⟩, ⟨3, rfl⟩, ⟨4, rfl⟩, ⟨5, rfl⟩, ⟨6, rfl⟩, ⟨7, rfl⟩, ⟨8, rfl⟩, trivial⟩ (accepts_spec (normA (uniA a c)) _ _ _ t _ V30 (hB.mono (hv11.trans (hv12.trans (hv13.trans (hv14.trans (hv15.trans (hv16.trans (hv17.trans (hv18.trans (hv19.trans (hv20.trans (hv21.trans (hv22.trans (hv23.trans (hv24.trans (hv25.trans (hv26.trans (hv27.trans (hv28.trans (hv29.trans (hv30))))))))))))))))))))) hrk8 ht (by omega)) ?_
                      rintro _ V31 hv31 rfl
                      rw [haccU]
                      refine D_val rfl rfl rfl (R_move rfl) ?_
                      refine D_val rfl rfl rfl (R_move rfl) ?_
                      refine D_val rfl rfl rfl (R_pickF rfl rfl) ?_
                      refine D_val rfl rfl rfl (R_boolEq (by kernel_rfl) rfl rfl) ?_
                      refine D_val rfl rfl rfl (R_move rfl) ?_
                      refine D_splitB ?_ ?_
                      ·
                        intro h127
                        refine D_val rfl rfl rfl (R_loadW ty50 4 rfl rfl rfl rfl) ?_
                        refine D_val rfl rfl rfl (R_loadW ty24 6 rfl rfl rfl rfl) ?_
                        refine D_val rfl rfl rfl (R_move rfl) ?_
                        refine D_call rfl rfl c11 rfl ⟨⟨0, rfl⟩, ⟨1, rfl⟩, ⟨2, rfl⟩, ⟨3, rfl⟩, ⟨4, rfl⟩, ⟨5, rfl⟩, ⟨6, rfl⟩, ⟨7, rfl⟩, ⟨8, rfl⟩, trivial⟩ (tree_spec t.size t V31 _ (Nat.le_refl _) (by omega) (hr.mono (hv1.trans (hv2.trans (hv3.trans (hv4.trans (hv5.trans (hv6.trans (hv7.trans (hv8.trans (hv9.trans (hv10.trans (hv11.trans (hv12.trans (hv13.trans (hv14.trans (hv15.trans (hv16.trans (hv17.trans (hv18.trans (hv19.trans (hv20.trans (hv21.trans (hv22.trans (hv23.trans (hv24.trans (hv25.trans (hv26.trans (hv27.trans (hv28.trans (hv29.trans (hv30.trans (hv31))))))))))))))))))))))))))))))))) ?_
                        rintro _ V32 hv32 ⟨dt, rfl, ht⟩
                        obtain ⟨t0, t1, t2, t3, rfl⟩ := ht.shape
                        refine D_call rfl rfl c2012 rfl ⟨⟨0, rfl⟩, ⟨1, rfl⟩, ⟨2, rfl⟩, ⟨3, rfl⟩, ⟨4, rfl⟩, ⟨5, rfl⟩, ⟨6, rfl⟩, ⟨7, rfl⟩, ⟨8, rfl⟩, trivial⟩ (accepts_spec (normA (intA a c)) _ _ _ t _ V32 (hD.mono (hv14.trans (hv15.trans (hv16.trans (hv17.trans (hv18.trans (hv19.trans (hv20.trans (hv21.trans (hv22.trans (hv23.trans (hv24.trans (hv25.trans (hv26.trans (hv27.trans (hv28.trans (hv29.trans (hv30.trans (hv31.trans (hv32)))))))))))))))))))) hrk8 ht (by omega)) ?_
                        rintro _ V33 hv33 rfl
                        rw [haccI]
                        refine D_val rfl rfl rfl (R_move rfl) ?_
                        refine D_skip rfl rfl ?_
                        refine D_val rfl rfl rfl (R_pickF rfl rfl) ?_
                        refine D_val rfl rfl rfl (R_boolEq (by kernel_rfl) rfl rfl) ?_
                        refine D_val rfl rfl rfl (R_pickT rfl rfl) ?_
                        refine D_val rfl rfl rfl (R_move rfl) ?_
                        refine D_splitB ?_ ?_
                        ·
                          intro h138
                          refine D_val rfl rfl rfl (R_loadW ty2009 1 rfl rfl rfl rfl) ?_
                          refine D_val rfl rfl rfl (R_loadW ty2009 3 rfl rfl rfl rfl) ?_
                          refine D_val rfl rfl rfl (R_loadW ty2009 2 rfl rfl rfl rfl) ?_
                          refine D_call rfl rfl c2035 rfl ⟨⟨0, rfl⟩, ⟨1, rfl⟩, ⟨2, rfl⟩, ⟨3, rfl⟩, ⟨4, rfl⟩, ⟨5, rfl⟩, ⟨6, rfl⟩, ⟨7, rfl⟩, ⟨8, rfl⟩, trivial⟩ (addNN_spec (numA a t) (numA c t) _ _ V33 (hNA.mono (hv23.trans (hv24.trans (hv25.trans (hv26.trans (hv27.trans (hv28.trans (hv29.trans (hv30.trans (hv31.trans (hv32.trans (hv33)))))))))))) (hNC.mono (hv26.trans (hv27.trans (hv28.trans (hv29.trans (hv30.trans (hv31.trans (hv32.trans (hv33))))))))) hbA hbC) ?_
                          rintro _ V34 hv34 ⟨ra1, rk1, rw1, rfl, hAdd⟩
                          refine D_call rfl rfl c2018 rfl ⟨⟨0, rfl⟩, ⟨1, rfl⟩, ⟨2, rfl⟩, ⟨3, rfl⟩, ⟨4, rfl⟩, ⟨5, rfl⟩, ⟨6, rfl⟩, ⟨7, rfl⟩, ⟨8, rfl⟩, trivial⟩ (eqN_spec (numA a t + numA c t) (numA a t + numA c t) _ _ V34 (hNU.mono (hv28.trans (hv29.trans (hv30.trans (hv31.trans (hv32.trans (hv33.trans (hv34)))))))) hAdd hadd) ?_
                          rintro _ V35 hv35 rfl
                          rw [decide_eq_true (rfl : numA a t + numA c t = numA a t + numA c t)]
                          refine D_val rfl rfl rfl (R_pickT rfl rfl) ?_
                          refine D_val rfl rfl rfl (R_move rfl) ?_
                          refine D_splitB ?_ ?_
                          ·
                            intro h145
                            refine D_val rfl rfl rfl (R_loadW ty2009 0 rfl rfl rfl rfl) ?_
                            refine D_val rfl rfl rfl (R_loadW ty2009 3 rfl rfl rfl rfl) ?_
                            refine D_val rfl rfl rfl (R_loadW ty2009 2 rfl rfl rfl rfl) ?_
                            refine D_call rfl rfl c2036 rfl ⟨⟨0, rfl⟩, ⟨1, rfl⟩, ⟨2, rfl⟩, ⟨3, rfl⟩, ⟨4, rfl⟩, ⟨5, rfl⟩, ⟨6, rfl⟩, ⟨7, rfl⟩, ⟨8, rfl⟩, trivial⟩ (mulNN_spec (numA a t) (numA c t) _ _ V35 (hNA.mono (hv23.trans (hv24.trans (hv25.trans (hv26.trans (hv27.trans (hv28.trans (hv29.trans (hv30.trans (hv31.trans (hv32.trans (hv33.trans (hv34.trans (hv35)))))))))))))) (hNC.mono (hv26.trans (hv27.trans (hv28.trans (hv29.trans (hv30.trans (hv31.trans (hv32.trans (hv33.trans (hv34.trans (hv35))))))))))) hbA hbC) ?_
                            rintro _ V36 hv36 ⟨ra2, rk2, rw2, rfl, hMul⟩
                            refine D_call rfl rfl c2018 rfl ⟨⟨0, rfl⟩, ⟨1, rfl⟩, ⟨2, rfl⟩, ⟨3, rfl⟩, ⟨4, rfl⟩, ⟨5, rfl⟩, ⟨6, rfl⟩, ⟨7, rfl⟩, ⟨8, rfl⟩, trivial⟩ (eqN_spec (numA a t * numA c t) (numA a t * numA c t) _ _ V36 (hNI.mono (hv30.trans (hv31.trans (hv32.trans (hv33.trans (hv34.trans (hv35.trans (hv36)))))))) hMul hmul) ?_
                            rintro _ V37 hv37 rfl
                            rw [decide_eq_true (rfl : numA a t * numA c t = numA a t * numA c t)]
                            refine D_val rfl rfl rfl (R_pickT rfl rfl) ?_
                            refine D_val rfl rfl rfl (R_assign rfl) ?_
                            refine D_done ?_
                            refine Q_then ?_
                            refine K_ret ?_
                            refine results_gen (rs := [.tmp 6]) (vs := [_]) rfl ⟨rfl, trivial⟩ ?_
                            first | rfl | exact congrArg Value.bool (by simp)
                          ·
                            intro h145
                            exact absurd h145 (by decide)
                        ·
                          intro h138
                          exact absurd h138 (by decide)
                      ·
                        intro h127
                        exact absurd h127 (by decide)
                    ·
                      have haccU : accA (normA (uniA a c)) t = true := by rw [hU0, haA, haC]; rfl
                      have haccI : accA (normA (intA a c)) t = false := by rw [hI0, haA, haC]; rfl
                      refine K_regionD (fin := false) (R := [0, 1, 4, 2, 3, 5, 6, 7, 8, 9, 10, 11, 14, 12, 13, 15, 16, 17, 18, 19, 20, 21, 22, 23, 24, 25, 26, 27, 28, 29, 30, 31, 32, 33, 34]) (by kernel_rfl) mixed (.cons_cons _ (.cons_cons _ (.cons_cons _ (.cons_cons _ (.cons_cons _ (.cons_cons _ (.cons_cons _ (.cons_cons _ (.cons_cons _ (List.nil_sublist _)))))))))) ?_
                      refine D_val rfl rfl rfl (R_loadW ty50 5 rfl rfl rfl rfl) ?_
                      refine D_val rfl rfl rfl (R_loadW ty24 6 rfl rfl rfl rfl) ?_
                      refine D_val rfl rfl rfl (R_move rfl) ?_
                      refine D_call rfl rfl c11 rfl ⟨⟨0, rfl⟩, ⟨1, rfl⟩, ⟨2, rfl⟩, ⟨3, rfl⟩, ⟨4, rfl⟩, ⟨5, rfl⟩, ⟨6, rfl⟩, ⟨7, rfl⟩, ⟨8, rfl⟩, trivial⟩ (tree_spec t.size t V29 _ (Nat.le_refl _) (by omega) (hr.mono (hv1.trans (hv2.trans (hv3.trans (hv4.trans (hv5.trans (hv6.trans (hv7.trans (hv8.trans (hv9.trans (hv10.trans (hv11.trans (hv12.trans (hv13.trans (hv14.trans (hv15.trans (hv16.trans (hv17.trans (hv18.trans (hv19.trans (hv20.trans (hv21.trans (hv22.trans (hv23.trans (hv24.trans (hv25.trans (hv26.trans (hv27.trans (hv28.trans (hv29))))))))))))))))))))))))))))))) ?_
                      rintro _ V30 hv30 ⟨dt, rfl, ht⟩
                      obtain ⟨t0, t1, t2, t3, rfl⟩ := ht.shape
                      refine D_call rfl rfl c2012 rfl ⟨⟨0, rfl⟩, ⟨1, rfl⟩, ⟨2, rfl⟩, ⟨3, rfl⟩, ⟨4, rfl⟩, ⟨5, rfl⟩, ⟨6, rfl⟩, ⟨7, rfl⟩, ⟨8, rfl⟩, trivial⟩ (accepts_spec (normA (uniA a c)) _ _ _ t _ V30 (hB.mono (hv11.trans (hv12.trans (hv13.trans (hv14.trans (hv15.trans (hv16.trans (hv17.trans (hv18.trans (hv19.trans (hv20.trans (hv21.trans (hv22.trans (hv23.trans (hv24.trans (hv25.trans (hv26.trans (hv27.trans (hv28.trans (hv29.trans (hv30))))))))))))))))))))) hrk8 ht (by omega)) ?_
                      rintro _ V31 hv31 rfl
                      rw [haccU]
                      refine D_val rfl rfl rfl (R_move rfl) ?_
                      refine D_val rfl rfl rfl (R_move rfl) ?_
                      refine D_val rfl rfl rfl (R_pickF rfl rfl) ?_
                      refine D_val rfl rfl rfl (R_boolEq (by kernel_rfl) rfl rfl) ?_
                      refine D_val rfl rfl rfl (R_move rfl) ?_
                      refine D_splitB ?_ ?_
                      ·
                        intro h127
                        refine D_val rfl rfl rfl (R_loadW ty50 4 rfl rfl rfl rfl) ?_
                        refine D_val rfl rfl rfl (R_loadW ty24 6 rfl rfl rfl rfl) ?_
                        refine D_val rfl rfl rfl (R_move rfl) ?_
                        refine D_call rfl rfl c11 rfl ⟨⟨0, rfl⟩, ⟨1, rfl⟩, ⟨2, rfl⟩, ⟨3, rfl⟩, ⟨4, rfl⟩, ⟨5, rfl⟩, ⟨6, rfl⟩, ⟨7, rfl⟩, ⟨8, rfl⟩, trivial⟩ (tree_spec t.size t V31 _ (Nat.le_refl _) (by omega) (hr.mono (hv1.trans (hv2.trans (hv3.trans (hv4.trans (hv5.trans (hv6.trans (hv7.trans (hv8.trans (hv9.trans (hv10.trans (hv11.trans (hv12.trans (hv13.trans (hv14.trans (hv15.trans (hv16.trans (hv17.trans (hv18.trans (hv19.trans (hv20.trans (hv21.trans (hv22.trans (hv23.trans (hv24.trans (hv25.trans (hv26.trans (hv27.trans (hv28.trans (hv29.trans (hv30.trans (hv31))))))))))))))))))))))))))))))))) ?_
                        rintro _ V32 hv32 ⟨dt, rfl, ht⟩
                        obtain ⟨t0, t1, t2, t3, rfl⟩ := ht.shape
                        refine D_call rfl rfl c2012 rfl ⟨⟨0, rfl⟩, ⟨1, rfl⟩, ⟨2, rfl⟩, ⟨3, rfl⟩, ⟨4, rfl⟩, ⟨5, rfl⟩, ⟨6, rfl⟩, ⟨7, rfl⟩, ⟨8, rfl⟩, trivial⟩ (accepts_spec (normA (intA a c)) _ _ _ t _ V32 (hD.mono (hv14.trans (hv15.trans (hv16.trans (hv17.trans (hv18.trans (hv19.trans (hv20.trans (hv21.trans (hv22.trans (hv23.trans (hv24.trans (hv25.trans (hv26.trans (hv27.trans (hv28.trans (hv29.trans (hv30.trans (hv31.trans (hv32)))))))))))))))))))) hrk8 ht (by omega)) ?_
                        rintro _ V33 hv33 rfl
                        rw [haccI]
                        refine D_val rfl rfl rfl (R_move rfl) ?_
                        refine D_skip rfl rfl ?_
                        refine D_val rfl rfl rfl (R_pickF rfl rfl) ?_
                        refine D_val rfl rfl rfl (R_boolEq (by kernel_rfl) rfl rfl) ?_
                        refine D_val rfl rfl rfl (R_pickT rfl rfl) ?_
                        refine D_val rfl rfl rfl (R_move rfl) ?_
                        refine D_splitB ?_ ?_
                        ·
                          intro h138
                          refine D_val rfl rfl rfl (R_loadW ty2009 1 rfl rfl rfl rfl) ?_
                          refine D_val rfl rfl rfl (R_loadW ty2009 3 rfl rfl rfl rfl) ?_
                          refine D_val rfl rfl rfl (R_loadW ty2009 2 rfl rfl rfl rfl) ?_
                          refine D_call rfl rfl c2035 rfl ⟨⟨0, rfl⟩, ⟨1, rfl⟩, ⟨2, rfl⟩, ⟨3, rfl⟩, ⟨4, rfl⟩, ⟨5, rfl⟩, ⟨6, rfl⟩, ⟨7, rfl⟩, ⟨8, rfl⟩, trivial⟩ (addNN_spec (numA a t) (numA c t) _ _ V33 (hNA.mono (hv23.trans (hv24.trans (hv25.trans (hv26.trans (hv27.trans (hv28.trans (hv29.trans (hv30.trans (hv31.trans (hv32.trans (hv33)))))))))))) (hNC.mono (hv26.trans (hv27.trans (hv28.trans (hv29.trans (hv30.trans (hv31.trans (hv32.trans (hv33))))))))) hbA hbC) ?_
                          rintro _ V34 hv34 ⟨ra1, rk1, rw1, rfl, hAdd⟩
                          refine D_call rfl rfl c2018 rfl ⟨⟨0, rfl⟩, ⟨1, rfl⟩, ⟨2, rfl⟩, ⟨3, rfl⟩, ⟨4, rfl⟩, ⟨5, rfl⟩, ⟨6, rfl⟩, ⟨7, rfl⟩, ⟨8, rfl⟩, trivial⟩ (eqN_spec (numA a t + numA c t) (numA a t + numA c t) _ _ V34 (hNU.mono (hv28.trans (hv29.trans (hv30.trans (hv31.trans (hv32.trans (hv33.trans (hv34)))))))) hAdd hadd) ?_
                          rintro _ V35 hv35 rfl
                          rw [decide_eq_true (rfl : numA a t + numA c t = numA a t + numA c t)]
                          refine D_val rfl rfl rfl (R_pickT rfl rfl) ?_
                          refine D_val rfl rfl rfl (R_move rfl) ?_
                          refine D_splitB ?_ ?_
                          ·
                            intro h145
                            refine D_val rfl rfl rfl (R_loadW ty2009 0 rfl rfl rfl rfl) ?_
                            refine D_val rfl rfl rfl (R_loadW ty2009 3 rfl rfl rfl rfl) ?_
                            refine D_val rfl rfl rfl (R_loadW ty2009 2 rfl rfl rfl rfl) ?_
                            refine D_call rfl rfl c2036 rfl ⟨⟨0, rfl⟩, ⟨1, rfl⟩, ⟨2, rfl⟩, ⟨3, rfl⟩, ⟨4, rfl⟩, ⟨5, rfl⟩, ⟨6, rfl⟩, ⟨7, rfl⟩, ⟨8, rfl⟩, trivial⟩ (mulNN_spec (numA a t) (numA c t) _ _ V35 (hNA.mono (hv23.trans (hv24.trans (hv25.trans (hv26.trans (hv27.trans (hv28.trans (hv29.trans (hv30.trans (hv31.trans (hv32.trans (hv33.trans (hv34.trans (hv35)))))))))))))) (hNC.mono (hv26.trans (hv27.trans (hv28.trans (hv29.trans (hv30.trans (hv31.trans (hv32.trans (hv33.trans (hv34.trans (hv35))))))))))) hbA hbC) ?_
                            rintro _ V36 hv36 ⟨ra2, rk2, rw2, rfl, hMul⟩
                            refine D_call rfl rfl c2018 rfl ⟨⟨0, rfl⟩, ⟨1, rfl⟩, ⟨2, rfl⟩, ⟨3, rfl⟩, ⟨4, rfl⟩, ⟨5, rfl⟩, ⟨6, rfl⟩, ⟨7, rfl⟩, ⟨8, rfl⟩, trivial⟩ (eqN_spec (numA a t * numA c t) (numA a t * numA c t) _ _ V36 (hNI.mono (hv30.trans (hv31.trans (hv32.trans (hv33.trans (hv34.trans (hv35.trans (hv36)))))))) hMul hmul) ?_
                            rintro _ V37 hv37 rfl
                            rw [decide_eq_true (rfl : numA a t * numA c t = numA a t * numA c t)]
                            refine D_val rfl rfl rfl (R_pickT rfl rfl) ?_
                            refine D_val rfl rfl rfl (R_assign rfl) ?_
                            refine D_done ?_
                            refine Q_then ?_
                            refine K_ret ?_
                            refine results_gen (rs := [.tmp 6]) (vs := [_]) rfl ⟨rfl, trivial⟩ ?_
                            first | rfl | exact congrArg Value.bool (by simp)
                          ·
                            intro h145
                            exact absurd h145 (by decide)
                        ·
                          intro h138
                          exact absurd h138 (by decide)
                      ·
                        intro h127
                        exact absurd h127 (by decide)
                    ·
                      have haccU : accA (normA (uniA a c)) t = true := by rw [hU0, haA, haC]; rfl
                      have haccI : accA (normA (intA a c)) t = false := by rw [hI0, haA, haC]; rfl
                      refine K_regionD (fin := false) (R := [0, 1, 4, 2, 3, 5, 6, 7, 8, 9, 10, 11, 14, 12, 13, 15, 16, 17, 18, 19, 20, 21, 22, 23, 24, 25, 26, 27, 28, 29, 30, 31, 32, 33, 34]) (by kernel_rfl) mixed (.cons_cons _ (.cons_cons _ (.cons_cons _ (.cons_cons _ (.cons_cons _ (.cons_cons _ (.cons_cons _ (.cons_cons _ (.cons_cons _ (List.nil_sublist _)))))))))) ?_
                      refine D_val rfl rfl rfl (R_loadW ty50 5 rfl rfl rfl rfl) ?_
                      refine D_val rfl rfl rfl (R_loadW ty24 6 rfl rfl rfl rfl) ?_
                      refine D_val rfl rfl rfl (R_move rfl) ?_
                      refine D_call rfl rfl c11 rfl ⟨⟨0, rfl⟩, ⟨1, rfl⟩, ⟨2, rfl⟩, ⟨3, rfl⟩, ⟨4, rfl⟩, ⟨5, rfl⟩, ⟨6, rfl⟩, ⟨7, rfl⟩, ⟨8, rfl⟩, trivial⟩ (tree_spec t.size t V29 _ (Nat.le_refl _) (by omega) (hr.mono (hv1.trans (hv2.trans (hv3.trans (hv4.trans (hv5.trans (hv6.trans (hv7.trans (hv8.trans (hv9.trans (hv10.trans (hv11.trans (hv12.trans (hv13.trans (hv14.trans (hv15.trans (hv16.trans (hv17.trans (hv18.trans (hv19.trans (hv20.trans (hv21.trans (hv22.trans (hv23.trans (hv24.trans (hv25.trans (hv26.trans (hv27.trans (hv28.trans (hv29))))))))))))))))))))))))))))))) ?_
                      rintro _ V30 hv30 ⟨dt, rfl, ht⟩
                      obtain ⟨t0, t1, t2, t3, rfl⟩ := ht.shape
                      refine D_call rfl rfl c2012 rfl ⟨⟨0, rfl⟩, ⟨1, rfl⟩, ⟨2, rfl⟩, ⟨3, rfl⟩, ⟨4, rfl⟩, ⟨5, rfl⟩, ⟨6, rfl⟩, ⟨7, rfl⟩, ⟨8, rfl⟩, trivial⟩ (accepts_spec (normA (uniA a c)) _ _ _ t _ V30 (hB.mono (hv11.trans (hv12.trans (hv13.trans (hv14.trans (hv15.trans (hv16.trans (hv17.trans (hv18.trans (hv19.trans (hv20.trans (hv21.trans (hv22.trans (hv23.trans (hv24.trans (hv25.trans (hv26.trans (hv27.trans (hv28.trans (hv29.trans (hv30))))))))))))))))))))) hrk8 ht (by omega)) ?_
                      rintro _ V31 hv31 rfl
                      rw [haccU]
                      refine D_val rfl rfl rfl (R_move rfl) ?_
                      refine D_skip rfl rfl ?_
                      refine D_val rfl rfl rfl (R_pickT rfl rfl) ?_
                      refine D_val rfl rfl rfl (R_boolEq (by kernel_rfl) rfl rfl) ?_
                      refine D_val rfl rfl rfl (R_move rfl) ?_
                      refine D_splitB ?_ ?_
                      ·
                        intro h127
                        refine D_val rfl rfl rfl (R_loadW ty50 4 rfl rfl rfl rfl) ?_
                        refine D_val rfl rfl rfl (R_loadW ty24 6 rfl rfl rfl rfl) ?_
                        refine D_val rfl rfl rfl (R_move rfl) ?_
                        refine D_call rfl rfl c11 rfl ⟨⟨0, rfl⟩, ⟨1, rfl⟩, ⟨2, rfl⟩, ⟨3, rfl⟩, ⟨4, rfl⟩, ⟨5, rfl⟩, ⟨6, rfl⟩, ⟨7, rfl⟩, ⟨8, rfl⟩, trivial⟩ (tree_spec t.size t V31 _ (Nat.le_refl _) (by omega) (hr.mono (hv1.trans (hv2.trans (hv3.trans (hv4.trans (hv5.trans (hv6.trans (hv7.trans (hv8.trans (hv9.trans (hv10.trans (hv11.trans (hv12.trans (hv13.trans (hv14.trans (hv15.trans (hv16.trans (hv17.trans (hv18.trans (hv19.trans (hv20.trans (hv21.trans (hv22.trans (hv23.trans (hv24.trans (hv25.trans (hv26.trans (hv27.trans (hv28.trans (hv29.trans (hv30.trans (hv31))))))))))))))))))))))))))))))))) ?_
                        rintro _ V32 hv32 ⟨dt, rfl, ht⟩
                        obtain ⟨t0, t1, t2, t3, rfl⟩ := ht.shape
                        refine D_call rfl rfl c2012 rfl ⟨⟨0, rfl⟩, ⟨1, rfl⟩, ⟨2, rfl⟩, ⟨3, rfl⟩, ⟨4, rfl⟩, ⟨5, rfl⟩, ⟨6, rfl⟩, ⟨7, rfl⟩, ⟨8, rfl⟩, trivial⟩ (accepts_spec (normA (intA a c)) _ _ _ t _ V32 (hD.mono (hv14.trans (hv15.trans (hv16.trans (hv17.trans (hv18.trans (hv19.trans (hv20.trans (hv21.trans (hv22.trans (hv23.trans (hv24.trans (hv25.trans (hv26.trans (hv27.trans (hv28.trans (hv29.trans (hv30.trans (hv31.trans (hv32)))))))))))))))))))) hrk8 ht (by omega)) ?_
                        rintro _ V33 hv33 rfl
                        rw [haccI]
                        refine D_val rfl rfl rfl (R_move rfl) ?_
                        refine D_val rfl rfl rfl (R_move rfl) ?_
                        refine D_val rfl rfl rfl (R_pickT rfl rfl) ?_
                        refine D_val rfl rfl rfl (R_boolEq (by kernel_rfl) rfl rfl) ?_
                        refine D_val rfl rfl rfl (R_pickT rfl rfl) ?_
                        refine D_val rfl rfl rfl (R_move rfl) ?_
                        refine D_splitB ?_ ?_
                        ·
                          intro h138
                          refine D_val rfl rfl rfl (R_loadW ty2009 1 rfl rfl rfl rfl) ?_
                          refine D_val rfl rfl rfl (R_loadW ty2009 3 rfl rfl rfl rfl) ?_
                          refine D_val rfl rfl rfl (R_loadW ty2009 2 rfl rfl rfl rfl) ?_
                          refine D_call rfl rfl c2035 rfl ⟨⟨0, rfl⟩, ⟨1, rfl⟩, ⟨2, rfl⟩, ⟨3, rfl⟩, ⟨4, rfl⟩, ⟨5, rfl⟩, ⟨6, rfl⟩, ⟨7, rfl⟩, ⟨8, rfl⟩, trivial⟩ (addNN_spec (numA a t) (numA c t) _ _ V33 (hNA.mono (hv23.trans (hv24.trans (hv25.trans (hv26.trans (hv27.trans (hv28.trans (hv29.trans (hv30.trans (hv31.trans (hv32.trans (hv33)))))))))))) (hNC.mono (hv26.trans (hv27.trans (hv28.trans (hv29.trans (hv30.trans (hv31.trans (hv32.trans (hv33))))))))) hbA hbC) ?_
                          rintro _ V34 hv34 ⟨ra1, rk1, rw1, rfl, hAdd⟩
                          refine D_call rfl rfl c2018 rfl ⟨⟨0, rfl⟩, ⟨1, rfl⟩, ⟨2, rfl⟩, ⟨3, rfl⟩, ⟨4, rfl⟩, ⟨5, rfl⟩, ⟨6, rfl⟩, ⟨7, rfl⟩, ⟨8, rfl⟩, trivial⟩ (eqN_spec (numA a t + numA c t) (numA a t + numA c t) _ _ V34 (hNU.mono (hv28.trans (hv29.trans (hv30.trans (hv31.trans (hv32.trans (hv33.trans (hv34)))))))) hAdd hadd) ?_
                          rintro _ V35 hv35 rfl
                          rw [decide_eq_true (rfl : numA a t + numA c t = numA a t + numA c t)]
                          refine D_val rfl rfl rfl (R_pickT rfl rfl) ?_
                          refine D_val rfl rfl rfl (R_move rfl) ?_
                          refine D_splitB ?_ ?_
                          ·
                            intro h145
                            refine D_val rfl rfl rfl (R_loadW ty2009 0 rfl rfl rfl rfl) ?_
                            refine D_val rfl rfl rfl (R_loadW ty2009 3 rfl rfl rfl rfl) ?_
                            refine D_val rfl rfl rfl (R_loadW ty2009 2 rfl rfl rfl rfl) ?_
                            refine D_call rfl rfl c2036 rfl ⟨⟨0, rfl⟩, ⟨1, rfl⟩, ⟨2, rfl⟩, ⟨3, rfl⟩, ⟨4, rfl⟩, ⟨5, rfl⟩, ⟨6, rfl⟩, ⟨7, rfl⟩, ⟨8, rfl⟩, trivial⟩ (mulNN_spec (numA a t) (numA c t) _ _ V35 (hNA.mono (hv23.trans (hv24.trans (hv25.trans (hv26.trans (hv27.trans (hv28.trans (hv29.trans (hv30.trans (hv31.trans (hv32.trans (hv33.trans (hv34.trans (hv35)))))))))))))) (hNC.mono (hv26.trans (hv27.trans (hv28.trans (hv29.trans (hv30.trans (hv31.trans (hv32.trans (hv33.trans (hv34.trans (hv35))))))))))) hbA hbC) ?_
                            rintro _ V36 hv36 ⟨ra2, rk2, rw2, rfl, hMul⟩
                            refine D_call rfl rfl c2018 rfl ⟨⟨0, rfl⟩, ⟨1, rfl⟩, ⟨2, rfl⟩, ⟨3, rfl⟩, ⟨4, rfl⟩, ⟨5, rfl⟩, ⟨6, rfl⟩, ⟨7, rfl⟩, ⟨8, rfl⟩, trivial⟩ (eqN_spec (numA a t * numA c t) (numA a t * numA c t) _ _ V36 (hNI.mono (hv30.trans (hv31.trans (hv32.trans (hv33.trans (hv34.trans (hv35.trans (hv36)))))))) hMul hmul) ?_
                            rintro _ V37 hv37 rfl
                            rw [decide_eq_true (rfl : numA a t * numA c t = numA a t * numA c t)]
                            refine D_val rfl rfl rfl (R_pickT rfl rfl) ?_
                            refine D_val rfl rfl rfl (R_assign rfl) ?_
                            refine D_done ?_
                            refine Q_then ?_
                            refine K_ret ?_
                            refine results_gen (rs := [.tmp 6]) (vs := [_]) rfl ⟨rfl, trivial⟩ ?_
                            first | rfl | exact congrArg Value.bool (by simp)
                          ·
                            intro h145
                            exact absurd h145 (by decide)
                        ·
                          intro h138
                          exact absurd h138 (by decide)
                      ·
                        intro h127
                        exact absurd h127 (by decide)
                    ·
                      have haccU : accA (normA (uniA a c)) t = true := by rw [hU0, haA, haC]; rfl
                      have haccI : accA (normA (intA a c)) t = true := by rw [hI0, haA, haC]; rfl
                      refine K_regionD (fin := false) (R := [0, 1, 4, 2, 3, 5, 6, 7, 8, 9, 10, 11, 14, 12, 13, 15, 16, 17, 18, 19, 20, 21, 22, 23, 24, 25, 26, 27, 28, 29, 30, 31, 32, 33, 34]) (by kernel_rfl) mixed (.cons_cons _ (.cons_cons _ (.cons_cons _ (.cons_cons _ (.cons_cons _ (.cons_cons _ (.cons_cons _ (.cons_cons _ (.cons_cons _ (List.nil_sublist _)))))))))) ?_
                      refine D_val rfl rfl rfl (R_loadW ty50 5 rfl rfl rfl rfl) ?_
                      refine D_val rfl rfl rfl (R_loadW ty24 6 rfl rfl rfl rfl) ?_
                      refine D_val rfl rfl rfl (R_move rfl) ?_
                      refine D_call rfl rfl c11 rfl ⟨⟨0, rfl⟩, ⟨1, rfl⟩, ⟨2, rfl⟩, ⟨3, rfl⟩, ⟨4, rfl⟩, ⟨5, rfl⟩, ⟨6, rfl⟩, ⟨7, rfl⟩, ⟨8, rfl⟩, trivial⟩ (tree_spec t.size t V29 _ (Nat.le_refl _) (by omega) (hr.mono (hv1.trans (hv2.trans (hv3.trans (hv4.trans (hv5.trans (hv6.trans (hv7.trans (hv8.trans (hv9.trans (hv10.trans (hv11.trans (hv12.trans (hv13.trans (hv14.trans (hv15.trans (hv16.trans (hv17.trans (hv18.trans (hv19.trans (hv20.trans (hv21.trans (hv22.trans (hv23.trans (hv24.trans (hv25.trans (hv26.trans (hv27.trans (hv28.trans (hv29))))))))))))))))))))))))))))))) ?_
                      rintro _ V30 hv30 ⟨dt, rfl, ht⟩
                      obtain ⟨t0, t1, t2, t3, rfl⟩ := ht.shape
                      refine D_call rfl rfl c2012 rfl ⟨⟨0, rfl⟩, ⟨1, rfl⟩, ⟨2, rfl⟩, ⟨3, rfl⟩, ⟨4, rfl⟩, ⟨5, rfl⟩, ⟨6, rfl⟩, ⟨7, rfl⟩, ⟨8, rfl⟩, trivial⟩ (accepts_spec (normA (uniA a c)) _ _ _ t _ V30 (hB.mono (hv11.trans (hv12.trans (hv13.trans (hv14.trans (hv15.trans (hv16.trans (hv17.trans (hv18.trans (hv19.trans (hv20.trans (hv21.trans (hv22.trans (hv23.trans (hv24.trans (hv25.trans (hv26.trans (hv27.trans (hv28.trans (hv29.trans (hv30))))))))))))))))))))) hrk8 ht (by omega)) ?_
                      rintro _ V31 hv31 rfl
                      rw [haccU]
                      refine D_val rfl rfl rfl (R_move rfl) ?_
                      refine D_skip rfl rfl ?_
                      refine D_val rfl rfl rfl (R_pickT rfl rfl) ?_
                      refine D_val rfl rfl rfl (R_boolEq (by kernel_rfl) rfl rfl) ?_
                      refine D_val rfl rfl rfl (R_move rfl) ?_
                      refine D_splitB ?_ ?_
                      ·
                        intro h127
                        refine D_val rfl rfl rfl (R_loadW ty50 4 rfl rfl rfl rfl) ?_
                        refine D_val rfl rfl rfl (R_loadW ty24 6 rfl rfl rfl rfl) ?_
                        refine D_val rfl rfl rfl (R_move rfl) ?_
                        refine D_call rfl rfl c11 rfl ⟨⟨0, rfl⟩, ⟨1, rfl⟩, ⟨2, rfl⟩, ⟨3, rfl⟩, ⟨4, rfl⟩, ⟨5, rfl⟩, ⟨6, rfl⟩, ⟨7, rfl⟩, ⟨8, rfl⟩, trivial⟩ (tree_spec t.size t V31 _ (Nat.le_refl _) (by omega) (hr.mono (hv1.trans (hv2.trans (hv3.trans (hv4.trans (hv5.trans (hv6.trans (hv7.trans (hv8.trans (hv9.trans (hv10.trans (hv11.trans (hv12.trans (hv13.trans (hv14.trans (hv15.trans (hv16.trans (hv17.trans (hv18.trans (hv19.trans (hv20.trans (hv21.trans (hv22.trans (hv23.trans (hv24.trans (hv25.trans (hv26.trans (hv27.trans (hv28.trans (hv29.trans (hv30.trans (hv31))))))))))))))))))))))))))))))))) ?_
                        rintro _ V32 hv32 ⟨dt, rfl, ht⟩
                        obtain ⟨t0, t1, t2, t3, rfl⟩ := ht.shape
                        refine D_call rfl rfl c2012 rfl ⟨⟨0, rfl⟩, ⟨1, rfl⟩, ⟨2, rfl⟩, ⟨3, rfl⟩, ⟨4, rfl⟩, ⟨5, rfl⟩, ⟨6, rfl⟩, ⟨7, rfl⟩, ⟨8, rfl⟩, trivial⟩ (accepts_spec (normA (intA a c)) _ _ _ t _ V32 (hD.mono (hv14.trans (hv15.trans (hv16.trans (hv17.trans (hv18.trans (hv19.trans (hv20.trans (hv21.trans (hv22.trans (hv23.trans (hv24.trans (hv25.trans (hv26.trans (hv27.trans (hv28.trans (hv29.trans (hv30.trans (hv31.trans (hv32)))))))))))))))))))) hrk8 ht (by omega)) ?_
                        rintro _ V33 hv33 rfl
                        rw [haccI]
                        refine D_val rfl rfl rfl (R_move rfl) ?_
                        refine D_val rfl rfl rfl (R_move rfl) ?_
                        refine D_val rfl rfl rfl (R_pickT rfl rfl) ?_
                        refine D_val rfl rfl rfl (R_boolEq (by kernel_rfl) rfl rfl) ?_
                        refine D_val rfl rfl rfl (R_pickT rfl rfl) ?_
                        refine D_val rfl rfl rfl (R_move rfl) ?_
                        refine D_splitB ?_ ?_
                        ·
                          intro h138
                          refine D_val rfl rfl rfl (R_loadW ty2009 1 rfl rfl rfl rfl) ?_
                          refine D_val rfl rfl rfl (R_loadW ty2009 3 rfl rfl rfl rfl) ?_
                          refine D_val rfl rfl rfl (R_loadW ty2009 2 rfl rfl rfl rfl) ?_
                          refine D_call rfl rfl c2035 rfl ⟨⟨0, rfl⟩, ⟨1, rfl⟩, ⟨2, rfl⟩, ⟨3, rfl⟩, ⟨4, rfl⟩, ⟨5, rfl⟩, ⟨6, rfl⟩, ⟨7, rfl⟩, ⟨8, rfl⟩, trivial⟩ (addNN_spec (numA a t) (numA c t) _ _ V33 (hNA.mono (hv23.trans (hv24.trans (hv25.trans (hv26.trans (hv27.trans (hv28.trans (hv29.trans (hv30.trans (hv31.trans (hv32.trans (hv33)))))))))))) (hNC.mono (hv26.trans (hv27.trans (hv28.trans (hv29.trans (hv30.trans (hv31.trans (hv32.trans (hv33))))))))) hbA hbC) ?_
                          rintro _ V34 hv34 ⟨ra1, rk1, rw1, rfl, hAdd⟩
                          refine D_call rfl rfl c2018 rfl ⟨⟨0, rfl⟩, ⟨1, rfl⟩, ⟨2, rfl⟩, ⟨3, rfl⟩, ⟨4, rfl⟩, ⟨5, rfl⟩, ⟨6, rfl⟩, ⟨7, rfl⟩, ⟨8, rfl⟩, trivial⟩ (eqN_spec (numA a t + numA c t) (numA a t + numA c t) _ _ V34 (hNU.mono (hv28.trans (hv29.trans (hv30.trans (hv31.trans (hv32.trans (hv33.trans (hv34)))))))) hAdd hadd) ?_
                          rintro _ V35 hv35 rfl
                          rw [decide_eq_true (rfl : numA a t + numA c t = numA a t + numA c t)]
                          refine D_val rfl rfl rfl (R_pickT rfl rfl) ?_
                          refine D_val rfl rfl rfl (R_move rfl) ?_
                          refine D_splitB ?_ ?_
                          ·
                            intro h145
                            refine D_val rfl rfl rfl (R_loadW ty2009 0 rfl rfl rfl rfl) ?_
                            refine D_val rfl rfl rfl (R_loadW ty2009 3 rfl rfl rfl rfl) ?_
                            refine D_val rfl rfl rfl (R_loadW ty2009 2 rfl rfl rfl rfl) ?_
                            refine D_call rfl rfl c2036 rfl ⟨⟨0, rfl⟩, ⟨1, rfl⟩, ⟨2, rfl⟩, ⟨3, rfl⟩, ⟨4, rfl⟩, ⟨5, rfl⟩, ⟨6, rfl⟩, ⟨7, rfl⟩, ⟨8, rfl⟩, trivial⟩ (mulNN_spec (numA a t) (numA c t) _ _ V35 (hNA.mono (hv23.trans (hv24.trans (hv25.trans (hv26.trans (hv27.trans (hv28.trans (hv29.trans (hv30.trans (hv31.trans (hv32.trans (hv33.trans (hv34.trans (hv35)))))))))))))) (hNC.mono (hv26.trans (hv27.trans (hv28.trans (hv29.trans (hv30.trans (hv31.trans (hv32.trans (hv33.trans (hv34.trans (hv35))))))))))) hbA hbC) ?_
                            rintro _ V36 hv36 ⟨ra2, rk2, rw2, rfl, hMul⟩
                            refine D_call rfl rfl c2018 rfl ⟨⟨0, rfl⟩, ⟨1, rfl⟩, ⟨2, rfl⟩, ⟨3, rfl⟩, ⟨4, rfl⟩, ⟨5, rfl⟩, ⟨6, rfl⟩, ⟨7, rfl⟩, ⟨8, rfl⟩, trivial⟩ (eqN_spec (numA a t * numA c t) (numA a t * numA c t) _ _ V36 (hNI.mono (hv30.trans (hv31.trans (hv32.trans (hv33.trans (hv34.trans (hv35.trans (hv36)))))))) hMul hmul) ?_
                            rintro _ V37 hv37 rfl
                            rw [decide_eq_true (rfl : numA a t * numA c t = numA a t * numA c t)]
                            refine D_val rfl rfl rfl (R_pickT rfl rfl) ?_
                            refine D_val rfl rfl rfl (R_assign rfl) ?_
                            refine D_done ?_
                            refine Q_then ?_
                            refine K_ret ?_
                            refine results_gen (rs := [.tmp 6]) (vs := [_]) rfl ⟨rfl, trivial⟩ ?_
                            first | rfl | exact congrArg Value.bool (by simp)
                          ·
                            intro h145
                            exact absurd h145 (by decide)
                        ·
                          intro h138
                          exact absurd h138 (by decide)
                      ·
                        intro h127
                        exact absurd h127 (by decide)

theorem languages_law (a b : Au) (t : Tr) (v1 v2 v3 w1 w2 w3 : Value) (H : View) (cs : List Value) (ha : RepAu H a v1 v2 v3) (hb : RepAu H b w1 w2 w3) (hr : RepT H t cs) (hz : t.size ≤ 1048576) : Sat Tryz.prog F2007 #[.agg #[v1, .int .i64 a.states, v2, v3], .agg #[w1, .int .i64 b.states, w2, w3], .agg cs.toArray] H (fun v _ => v = .bool true) := by
  obtain ⟨q, p, e⟩ := hb.r.shape
  exact languages_core a ⟨a.ranks, b.states, b.rules, b.final⟩ t v1 v2 v3 w1 w2 w3 H cs ha ⟨ha.r, hb.u, hb.f, hb.s, ha.rl, hb.ul, hb.fl⟩ rfl ⟨q, _, p, e⟩ hr hz
end Go.Proofs.X
