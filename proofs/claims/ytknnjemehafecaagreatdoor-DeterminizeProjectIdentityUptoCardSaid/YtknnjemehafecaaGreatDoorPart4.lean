/-
  Part of the proof: rules for walks, contracts of the functions that the statements reach, plain laws. Own work. No statement of the seat is proved here.
-/
import Derived.Test.YtknnjemehafecaaGreatDoorPart3
import Derived.Test.YtknnjemehafecaaGreatDoorPart2
namespace Go.Proofs.X
open Go Pal Go.Proofs
attribute [local irreducible] Pal.KO Pal.KC Pal.KQ Pal.KD
theorem ty63 : Ty Tryz.prog T63 true 3 := .of (by kernel_rfl)
theorem fd30_0 : fldOk Tryz.prog T30 0 0 = true := by kernel_rfl
theorem c36 : callable Tryz.prog F36 = true := by kernel_rfl
theorem c66 : callable Tryz.prog F66 = true := by kernel_rfl
theorem c114 : callable Tryz.prog F114 = true := by kernel_rfl
theorem c115 : callable Tryz.prog F115 = true := by kernel_rfl
theorem c118 : callable Tryz.prog F118 = true := by kernel_rfl
theorem c119 : callable Tryz.prog F119 = true := by kernel_rfl
theorem rdcheck_spec (d : Dt) (v1 v2 v3 : Value) (H : View) (hd : RepDt H d v1 v2 v3) (hb : d.ranks.length ≤ 1048576 ∧ d.acc.length ≤ 1048576 ∧ d.to.length ≤ 1048576 ∧ ∀ x ∈ d.to, x.length ≤ 1048576) : Sat Tryz.prog F29 #[.agg #[v1, v2, v3]] H (fun r _ => r = .int .i64 (dtErr d)) := by
  obtain ⟨hb1, hb2, hb3, hb4⟩ := hb
  obtain ⟨ua1, uc1x, rfl⟩ := hd.r.shape
  obtain ⟨ua2, uc2x, rfl⟩ := hd.a.shape
  obtain ⟨ua3, uc3x, rfl⟩ := hd.t.shape
  refine enterO (n := 85) (args := [.agg #[.slice ua1 d.ranks.length uc1x, .slice ua2 d.acc.length uc2x, .slice ua3 d.to.length uc3x]]) Tryz.func7 rfl rfl rfl fun w0 => ?_
  refine K_seq ?_
  refine K_region ?_
  refine KA (A_box rfl) rfl fun b1 => ?_
  refine KV (R_assign rfl) rfl ?_
  refine K_nil ?_
  refine Q_then ?_
  refine K_seq ?_
  refine K_seq ?_
  refine K_region ?_
  refine KV (R_fieldAddr 0 fd63_0 rfl) rfl ?_
  refine KV (R_loadO ty25 0 rfl rfl rfl rfl (fun _ => rfl) rfl) rfl ?_
  refine K_call c36 rfl rfl (rcheck31_spec d.ranks _ H hd.r (by omega)) ?_
  rintro _ V1 hle1 rfl
  refine KV (R_assign rfl) rfl ?_
  refine K_nil ?_
  refine Q_then ?_
  refine K_seq ?_
  refine K_region ?_
  refine KV (R_move rfl) rfl ?_
  refine KV (R_cmp rfl rfl rfl) rfl ?_
  refine K_nil ?_
  refine Q_then ?_
  refine K_if rfl (fun h12 => ?_) (fun h12 => ?_)
  ·
    refine K_seq ?_
    refine K_region ?_
    refine KV (R_move rfl) rfl ?_
    refine KV (R_assign rfl) rfl ?_
    refine K_nil ?_
    refine Q_then ?_
    refine K_ret ?_
    refine Q_then_ret ?_
    refine results_gen (rs := [.tmp 2]) (vs := [_]) rfl ⟨rfl, trivial⟩ ?_
    simp only [tupV, dtErr]
    rw [if_pos h12]
  ·
    have hrks := (ranksErr_ok (Decidable.not_not.1 h12)).2
    refine K_skip ?_
    refine Q_then ?_
    refine K_seq ?_
    refine K_region ?_
    refine KV (R_fieldAddr 1 fd63_1 rfl) rfl ?_
    refine KV (R_loadO ty52 0 rfl rfl rfl rfl (fun _ => rfl) rfl) rfl ?_
    refine KV (R_len sl52 rfl) rfl ?_
    refine KV (R_assign rfl) rfl ?_
    refine K_nil ?_
    refine Q_then ?_
    refine K_seq ?_
    refine K_seq ?_
    refine K_region ?_
    refine KV (R_move rfl) rfl ?_
    refine KV (R_cmp rfl rfl rfl) rfl ?_
    refine KV (R_move rfl) rfl ?_
    refine K_split ?_ ?_
    ·
      intro h19
      refine K_gno rfl rfl rfl rfl ?_
      refine K_gno rfl rfl rfl rfl ?_
      refine KV (R_pickT rfl rfl) rfl ?_
      refine K_nil ?_
      refine Q_then ?_
      refine K_ifT rfl ?_
      refine K_seq ?_
      refine K_region ?_
      refine KV (R_assign rfl) rfl ?_
      refine K_nil ?_
      refine Q_then ?_
      refine K_ret ?_
      refine Q_then_ret ?_
      refine results_gen (rs := [.tmp 2]) (vs := [_]) rfl ⟨rfl, trivial⟩ ?_
      simp only [tupV, dtErr]
      rw [if_neg h12, if_pos (by omega)]
    ·
      intro h19
      refine K_gyes rfl rfl ?_
      refine KV (R_move rfl) rfl ?_
      refine K_gyes rfl rfl ?_
      refine KV (R_cmp rfl rfl rfl) rfl ?_
      refine KV (R_pickF rfl rfl) rfl ?_
      refine K_nil ?_
      refine Q_then ?_
      refine K_if rfl (fun h22 => ?_) (fun h22 => ?_)
      ·
        refine K_seq ?_
        refine K_region ?_
        refine KV (R_assign rfl) rfl ?_
        refine K_nil ?_
        refine Q_then ?_
        refine K_ret ?_
        refine Q_then_ret ?_
        refine results_gen (rs := [.tmp 2]) (vs := [_]) rfl ⟨rfl, trivial⟩ ?_
        simp only [tupV, dtErr]
        rw [if_neg h12, if_pos (by omega)]
      ·
        refine K_skip ?_
        refine Q_then ?_
        refine K_seq ?_
        refine K_seq ?_
        refine K_region ?_
        refine KV (R_fieldAddr 2 fd63_2 rfl) rfl ?_
        refine KV (R_loadO ty44 0 rfl rfl rfl rfl (fun _ => rfl) rfl) rfl ?_
        refine KV (R_len sl44 rfl) rfl ?_
        refine KV (R_fieldAddr 0 fd63_0 rfl) rfl ?_
        refine KV (R_loadO ty25 0 rfl rfl rfl rfl (fun _ => rfl) rfl) rfl ?_
        refine KV (R_len sl25 rfl) rfl ?_
        refine KV (R_cmp rfl rfl rfl) rfl ?_
        refine K_nil ?_
        refine Q_then ?_
        refine K_if rfl (fun h29 => ?_) (fun h29 => ?_)
        ·
          refine K_seq ?_
          refine K_region ?_
          refine KV (R_assign rfl) rfl ?_
          refine K_nil ?_
          refine Q_then ?_
          refine K_ret ?_
          refine Q_then_ret ?_
          refine results_gen (rs := [.tmp 2]) (vs := [_]) rfl ⟨rfl, trivial⟩ ?_
          simp only [tupV, dtErr]
          rw [if_neg h12, if_neg (by omega), if_pos h29]
        ·
          refine K_skip ?_
          refine Q_then ?_
          refine K_seq ?_
          refine K_seq ?_
          refine K_region ?_
          refine KV (R_assign rfl) rfl ?_
          refine K_nil ?_
          refine Q_then ?_
          refine K_block ?_
          refine K_loopD (G := Nat × View) [2, 5, 30, 31, 32, 33, 34, 35, 36, 37, 38, 39, 40, 41, 42, 43, 44, 45, 46] (fun g => [(5, .int .i64 (g.1 : Int))]) (fun hl g => hl) (fun g => g.2) (fun g => (g.1 ≤ d.to.length) ∧ (VLe H g.2) ∧ (∀ j (h : j < d.to.length), j < g.1 → (d.to.getD j []).length = d.acc.length ^ (d.ranks.getD j 0).toNat)) (fun g => d.to.length - g.1) (0, V1) ⟨Nat.zero_le _, hle1, fun j _ h => by simp at h⟩ ⟨rfl, trivial⟩ (by simp only [args0, Nat.reduceAdd, del, memN, beqN, Nat.reduceBEq, cond_true, cond_false]; rfl) rfl rfl ?_
          rintro ⟨s, V⟩ ⟨hs, hV, hwid⟩
          dsimp only at hs hV hwid
          dsimp only [List.set, List.cons_append, List.nil_append]
          refine K_seq ?_
          refine K_seq ?_
          refine K_region ?_
          refine KV (R_move rfl) rfl ?_
          refine KV (R_fieldAddr 2 fd63_2 rfl) rfl ?_
          refine KV (R_loadO ty44 0 rfl rfl rfl rfl (fun _ => rfl) rfl) rfl ?_
          refine KV (R_len sl44 rfl) rfl ?_
          refine KV (R_cmp rfl rfl rfl) rfl ?_
          refine K_nil ?_
          refine Q_then ?_
          refine K_if rfl (fun h34 => ?_) (fun h34 => ?_)
          ·
            have hs' : s < d.to.length := by omega
            obtain ⟨tb, to_, ea, ecp, hte, hta, hes⟩ := (hd.mono hV).t.get hs'
            cases hte
            have hsm : s < d.ranks.length := by omega
            obtain ⟨rb, ro, hre, hrk⟩ := (hd.mono hV).r.get hsm
            cases hre
            have hrr := hrks s hsm
            have hgs : d.to.getD s [] = d.to[s] := by simp [List.getD, hs']
            have hgr : d.ranks.getD s 0 = d.ranks[s] := by simp [List.getD, hsm]
            refine K_skip ?_
            refine Q_then ?_
            refine K_seq ?_
            refine K_block ?_
            refine K_seq ?_
            refine K_regionD (fin := false) (R := [0, 1, 2, 3, 4, 5, 6, 7, 8, 9]) (by kernel_rfl) mixed (.cons_cons _ (List.nil_sublist _)) ?_
            refine D_val rfl rfl rfl (R_fieldAddr 2 fd63_2 rfl) ?_
            refine D_val rfl rfl rfl (R_loadO ty44 0 rfl rfl rfl rfl (fun _ => rfl) rfl) ?_
            refine D_val rfl rfl rfl (R_move rfl) ?_
            refine D_val rfl rfl rfl (R_indexN sl44 ty25 rfl rfl (by omega)) ?_
            refine D_val rfl rfl rfl (R_loadH ty25 rfl (hta) rfl (fun _ => rfl) rfl) ?_
            refine D_val rfl rfl rfl (R_len sl25 rfl) ?_
            refine D_val rfl rfl rfl (R_loadO ty63 0 rfl rfl rfl rfl (fun e => by cases e) rfl) ?_
            refine D_val rfl rfl rfl (R_move rfl) ?_
            refine D_call rfl rfl c66 rfl ⟨⟨0, rfl⟩, trivial⟩ (places_spec d s _ _ _ V (hd.mono hV) (by omega) hsm hrr) ?_
            rintro _ V2 hv2 rfl
            refine D_val rfl rfl rfl (R_cmp rfl rfl rfl) ?_
            refine D_done ?_
            refine Q_then ?_
            refine K_if rfl (fun h46 => ?_) (fun h46 => ?_)
            ·
              have hwb : widthBad d = true := by
                unfold widthBad
                rw [List.any_eq_true]
                refine ⟨s, List.mem_range.2 hs', ?_⟩
                simp only [decide_eq_true_eq, hgs, hgr]
                omega
              refine K_seq ?_
              refine K_region ?_
              refine KV (R_assign rfl) rfl ?_
              refine K_nil ?_
              refine Q_then ?_
              refine K_ret ?_
              refine Q_block_ret ?_
              refine Q_then_ret ?_
              refine Q_then_ret ?_
              refine Q_block_ret ?_
              refine Q_then_ret ?_
              refine results_gen (rs := [.tmp 2]) (vs := [_]) rfl ⟨rfl, trivial⟩ ?_
              simp only [tupV, dtErr]
              rw [if_neg h12, if_neg (by omega), if_neg h29, if_pos hwb]
            ·
              have hwid2 : ∀ j (h : j < d.to.length), j < s + 1 → (d.to.getD j []).length = d.acc.length ^ (d.ranks.getD j 0).toNat := by
                intro j h hj
                by_cases e : j = s
                · subst e; rw [hgs, hgr]; omega
                · exact hwid j h (by omega)
              refine K_skip ?_
              refine Q_block ?_
              refine Q_then ?_
              refine K_region ?_
              refine KV (R_move rfl) rfl ?_
              refine KV (R_add rfl rfl (by omega)) rfl ?_
              refine KV (R_assign rfl) rfl ?_
              refine K_nil ?_
              refine Q_nextD (s + 1, V2) ⟨hs', hV.trans hv2, hwid2⟩ (by (try dsimp only); omega) ⟨rfl, trivial⟩ rfl rfl rfl
          ·
            have hwb : widthBad d = false := by
              unfold widthBad
              rw [List.any_eq_false]
              intro s hs
              have hs2 := List.mem_range.1 hs
              have := hwid s hs2 (by omega)
              simpa using this
            refine K_exit ?_
            refine Q_then_exit ?_
            refine Q_then_exit ?_
            refine Q_block_exit ?_
            refine Q_then ?_
            refine K_seq ?_
            refine K_seq ?_
            refine K_region ?_
            refine KV (R_assign rfl) rfl ?_
            refine K_nil ?_
            refine Q_then ?_
            refine K_block ?_
            refine K_loopD (G := Nat) [2, 6, 7, 47, 48, 49, 50, 51, 52, 53, 54, 55, 56, 57, 58, 59, 60, 61, 62, 63, 64, 65, 66, 67, 68, 69, 70, 71, 72, 73, 74, 75, 76, 77, 78, 79, 80, 81, 82, 83, 84] (fun g => [(6, .int .i64 (g : Int))]) (fun hl g => hl) (fun g => V) (fun g => (g ≤ d.to.length) ∧ (∀ j (h : j < d.to.length), j < g → d.to[j].any (badQ d.acc.length) = false)) (fun g => d.to.length - g) 0 ⟨Nat.zero_le _, fun j _ h => by simp at h⟩ ⟨rfl, trivial⟩ (by simp only [args0, Nat.reduceAdd, del, memN, beqN, Nat.reduceBEq, cond_true, cond_false]; rfl) rfl rfl ?_
            rintro s ⟨hs, hent⟩
            try dsimp only at hs
            try dsimp only at hent
            dsimp only [List.set, List.cons_append, List.nil_append]
            refine K_seq ?_
            refine K_seq ?_
            refine K_region ?_
            refine KV (R_move rfl) rfl ?_
            refine KV (R_fieldAddr 2 fd63_2 rfl) rfl ?_
            refine KV (R_loadO ty44 0 rfl rfl rfl rfl (fun _ => rfl) rfl) rfl ?_
            refine KV (R_len sl44 rfl) rfl ?_
            refine KV (R_cmp rfl rfl rfl) rfl ?_
            refine K_nil ?_
            refine Q_then ?_
            refine K_if rfl (fun h51 => ?_) (fun h51 => ?_)
            ·
              have hs' : s < d.to.length := by omega
              obtain ⟨tb, to_, ea, ecp, hte, hta, hes⟩ := (hd.mono hV).t.get hs'
              cases hte
              have hbl := hb4 _ (List.getElem_mem hs')
              refine K_skip ?_
              refine Q_then ?_
              refine K_seq ?_
              refine K_block ?_
              refine K_seq ?_
              refine K_region ?_
              refine KV (R_assign rfl) rfl ?_
              refine K_nil ?_
              refine Q_then ?_
              refine K_block ?_
              refine K_loopD (G := Nat) [2, 7, 54, 55, 56, 57, 58, 59, 60, 61, 62, 63, 64, 65, 66, 67, 68, 69, 70, 71, 72, 73, 74, 75, 76, 77, 78, 79, 80, 81, 82, 83, 84] (fun g => [(7, .int .i64 (g : Int))]) (fun hl g => hl) (fun g => V) (fun g => (g ≤ d.to[s].length) ∧ (∀ j (h : j < d.to[s].length), j < g → badQ d.acc.length d.to[s][j] = false)) (fun g => d.to[s].length - g) 0 ⟨Nat.zero_le _, fun j _ h => by simp at h⟩ ⟨rfl, trivial⟩ (by simp only [args0, Nat.reduceAdd, del, memN, beqN, Nat.reduceBEq, cond_true, cond_false]; rfl) rfl rfl ?_
              rintro k ⟨hk, hno⟩
              try dsimp only at hk
              try dsimp only at hno
              dsimp only [List.set, List.cons_append, List.nil_append]
              refine K_seq ?_
              refine K_seq ?_
              refine K_region ?_
              refine KV (R_move rfl) rfl ?_
              refine KV (R_fieldAddr 2 fd63_2 rfl) rfl ?_
              refine KV (R_loadO ty44 0 rfl rfl rfl rfl (fun _ => rfl) rfl) rfl ?_
              refine KV (R_move rfl) rfl ?_
              refine KV (R_indexN sl44 ty25 rfl rfl (by omega)) rfl ?_
              refine KV (R_loadH ty25 rfl (hta) rfl (fun _ => rfl) rfl) rfl ?_
              refine KV (R_len sl25 rfl) rfl ?_
              refine KV (R_cmp rfl rfl rfl) rfl ?_
              refine K_nil ?_
              refine Q_then ?_
              refine K_if rfl (fun h61 => ?_) (fun h61 => ?_)
              ·
                have hk' : k < d.to[s].length := by omega
                obtain ⟨eb, eo, hee, htx⟩ := hes.get hk'
                cases hee
                refine K_skip ?_
                refine Q_then ?_
                refine K_seq ?_
                refine K_block ?_
                refine K_seq ?_
                refine K_region ?_
                refine KV (R_fieldAddr 2 fd63_2 rfl) rfl ?_
                refine KV (R_loadO ty44 0 rfl rfl rfl rfl (fun _ => rfl) rfl) rfl ?_
                refine KV (R_move rfl) rfl ?_
                refine KV (R_indexN sl44 ty25 rfl rfl (by omega)) rfl ?_
                refine KV (R_loadH ty25 rfl (hta) rfl (fun _ => rfl) rfl) rfl ?_
                refine KV (R_move rfl) rfl ?_
                refine KV (R_indexN sl25 ty3 rfl rfl (by omega)) rfl ?_
                refine KV (R_loadH ty3 rfl (htx) rfl (fun _ => rfl) rfl) rfl ?_
                refine KV (R_cmp rfl rfl rfl) rfl ?_
                refine KV (R_move rfl) rfl ?_
                refine K_split ?_ ?_
                ·
                  intro h73
                  refine K_gno rfl rfl rfl rfl ?_
                  refine K_gno rfl rfl rfl rfl ?_
                  refine K_gno rfl rfl rfl rfl ?_
                  refine K_gno rfl rfl rfl rfl ?_
                  refine K_gno rfl rfl rfl rfl ?_
                  refine K_gno rfl rfl rfl rfl ?_
                  refine K_gno rfl rfl rfl rfl ?_
                  refine K_gno rfl rfl rfl rfl ?_
                  refine K_gno rfl rfl rfl rfl ?_
                  refine K_gno rfl rfl rfl rfl ?_
                  refine KV (R_pickT rfl rfl) rfl ?_
                  refine K_nil ?_
                  refine Q_then ?_
                  refine K_ifT rfl ?_
                  refine K_seq ?_
                  refine K_region ?_
                  refine KV (R_assign rfl) rfl ?_
                  refine K_nil ?_
                  refine Q_then ?_
                  refine K_ret ?_
                  refine Q_block_ret ?_
                  refine Q_then_ret ?_
                  refine Q_then_ret ?_
                  refine Q_block_ret ?_
                  refine Q_block_ret ?_
                  refine Q_then_ret ?_
                  refine Q_then_ret ?_
                  refine Q_block_ret ?_
                  refine Q_then_ret ?_
                  refine results_gen (rs := [.tmp 2]) (vs := [_]) rfl ⟨rfl, trivial⟩ ?_
                  have heb : entryBad d = true := List.any_eq_true.2 ⟨_, List.getElem_mem hs', List.any_eq_true.2 ⟨_, List.getElem_mem hk', by simp [badQ]; omega⟩⟩
                  simp only [tupV, dtErr]
                  rw [if_neg h12, if_neg (by omega), if_neg h29, hwb, heb]
                  rfl
                ·
                  intro h73
                  refine K_gyes rfl rfl ?_
                  refine KV (R_fieldAddr 2 fd63_2 rfl) rfl ?_
                  refine K_gyes rfl rfl ?_
                  refine KV (R_loadO ty44 0 rfl rfl rfl rfl (fun _ => rfl) rfl) rfl ?_
                  refine K_gyes rfl rfl ?_
                  refine KV (R_move rfl) rfl ?_
                  refine K_gyes rfl rfl ?_
                  refine KV (R_indexN sl44 ty25 rfl rfl (by omega)) rfl ?_
                  refine K_gyes rfl rfl ?_
                  refine KV (R_loadH ty25 rfl (hta) rfl (fun _ => rfl) rfl) rfl ?_
                  refine K_gyes rfl rfl ?_
                  refine KV (R_move rfl) rfl ?_
                  refine K_gyes rfl rfl ?_
                  refine KV (R_indexN sl25 ty3 rfl rfl (by omega)) rfl ?_
                  refine K_gyes rfl rfl ?_
                  refine KV (R_loadH ty3 rfl (htx) rfl (fun _ => rfl) rfl) rfl ?_
                  refine K_gyes rfl rfl ?_
                  refine KV (R_move rfl) rfl ?_
                  refine K_gyes rfl rfl ?_
                  refine KV (R_cmp rfl rfl rfl) rfl ?_
                  refine KV (R_pickF rfl rfl) rfl ?_
                  refine K_nil ?_
                  refine Q_then ?_
                  refine K_if rfl (fun h84 => ?_) (fun h84 => ?_)
                  ·
                    refine K_seq ?_
                    refine K_region ?_
                    refine KV (R_assign rfl) rfl ?_
                    refine K_nil ?_
                    refine Q_then ?_
                    refine K_ret ?_
                    refine Q_block_ret ?_
                    refine Q_then_ret ?_
                    refine Q_then_ret ?_
                    refine Q_block_ret ?_
                    refine Q_block_ret ?_
                    refine Q_then_ret ?_
                    refine Q_then_ret ?_
                    refine Q_block_ret ?_
                    refine Q_then_ret ?_
                    refine results_gen (rs := [.tmp 2]) (vs := [_]) rfl ⟨rfl, trivial⟩ ?_
                    have heb : entryBad d = true := List.any_eq_true.2 ⟨_, List.getElem_mem hs', List.any_eq_true.2 ⟨_, List.getElem_mem hk', by simp [badQ]; omega⟩⟩
                    simp only [tupV, dtErr]
                    rw [if_neg h12, if_neg (by omega), if_neg h29, hwb, heb]
                    rfl
                  ·
                    have hno2 : ∀ j (h : j < d.to[s].length), j < k + 1 → badQ d.acc.length d.to[s][j] = false := by
                      intro j h hj
                      by_cases e : j = k
                      · subst e; simp [badQ]; omega
                      · exact hno j h (by omega)
                    refine K_skip ?_
                    refine Q_block ?_
                    refine Q_then ?_
                    refine K_region ?_
                    refine KV (R_move rfl) rfl ?_
                    refine KV (R_add rfl rfl (by omega)) rfl ?_
                    refine KV (R_assign rfl) rfl ?_
                    refine K_nil ?_
                    refine Q_nextD (k + 1) ⟨hk', hno2⟩ (by (try dsimp only); omega) ⟨rfl, trivial⟩ rfl rfl rfl
              ·
                have hk' : k = d.to[s].length := by omega
                have hent2 : ∀ j (h : j < d.to.length), j < s + 1 → d.to[j].any (badQ d.acc.length) = false := by
                  intro j h hj
                  by_cases e : j = s
                  · subst e
                    rw [List.any_eq_false]
                    intro x hx
                    obtain ⟨i, hi, rfl⟩ := List.getElem_of_mem hx
                    simp [hno i hi (by omega)]
                  · exact hent j h (by omega)
                refine K_exit ?_
                refine Q_then_exit ?_
                refine Q_then_exit ?_
                refine Q_block_exit ?_
                refine Q_block ?_
                refine Q_then ?_
                refine K_region ?_
                refine KV (R_move rfl) rfl ?_
                refine KV (R_add rfl rfl (by omega)) rfl ?_
                refine KV (R_assign rfl) rfl ?_
                refine K_nil ?_
                refine Q_nextD (s + 1) ⟨hs', hent2⟩ (by (try dsimp only); omega) ⟨rfl, trivial⟩ rfl rfl rfl
            ·
              have heb : entryBad d = false := by
                unfold entryBad
                rw [List.any_eq_false]
                intro x hx
                obtain ⟨j, hj, rfl⟩ := List.getElem_of_mem hx
                simp [hent j hj (by omega)]
              refine K_exit ?_
              refine Q_then_exit ?_
              refine Q_then_exit ?_
              refine Q_block_exit ?_
              refine Q_then ?_
              refine K_seq ?_
              refine K_region ?_
              refine KV (R_assign rfl) rfl ?_
              refine K_nil ?_
              refine Q_then ?_
              refine K_ret ?_
              refine results_gen (rs := [.tmp 2]) (vs := [_]) rfl ⟨rfl, trivial⟩ ?_
              simp only [tupV, dtErr]
              rw [if_neg h12, if_neg (by omega), if_neg h29, hwb, heb]
              rfl

theorem right_spec (rk : List Int) (rv : Value) (hrkl : rk.length ≤ 1099511627776) : ∀ m t H cs, t.size ≤ m → m ≤ 1099511627776 → RepT H t cs → SI H rv rk → Sat Tryz.prog F115 #[rv, .agg cs.toArray] H (fun r _ => r = .int .i64 (Tr.nodesErr rk t)) := by
  intro m
  induction m with
  | zero => intro t H cs h; have := t.size_pos; omega
  | succ m ih =>
  intro t H cs hm hb hr hrv
  cases hr with | mk s ts a cap b off cs' hs ha hA hrec =>
  obtain ⟨va, vc, rfl⟩ := hrv.shape
  have hsz : (Tr.node s ts).size = 1 + Tr.sizes ts := rfl
  have hln := Tr.length_le_sizes ts
  have hunf : Tr.nodesErr rk (.node s ts) = if s < 0 ∨ (rk.length : Int) ≤ s then 6 else if (ts.length : Int) ≠ rk.getD s.toNat 0 then 3 else Tr.nodesErrs rk ts := by simp only [Tr.nodesErr]
  refine enterO (n := 43) (args := [.slice va rk.length vc, .agg #[.int .i64 s, .slice a ts.length cap]]) Tryz.func140 rfl rfl rfl fun w0 => ?_
  refine K_seq ?_
  refine K_region ?_
  refine KA (A_box rfl) rfl fun b3 => ?_
  refine KV (R_assign rfl) rfl ?_
  refine K_nil ?_
  refine Q_then ?_
  refine K_seq ?_
  refine K_block ?_
  refine K_seq ?_
  refine K_region ?_
  refine KV (R_fieldAddr 0 fd30_0 rfl) rfl ?_
  refine KV (R_loadO ty3 0 rfl rfl rfl rfl (fun _ => rfl) rfl) rfl ?_
  refine KV (R_cmp rfl rfl rfl) rfl ?_
  refine KV (R_move rfl) rfl ?_
  refine K_split ?_ ?_
  ·
    intro h12
    refine K_gno rfl rfl rfl rfl ?_
    refine K_gno rfl rfl rfl rfl ?_
    refine K_gno rfl rfl rfl rfl ?_
    refine K_gno rfl rfl rfl rfl ?_
    refine K_gno rfl rfl rfl rfl ?_
    refine KV (R_pickT rfl rfl) rfl ?_
    refine KV (R_assign rfl) rfl ?_
    refine K_nil ?_
    refine Q_then ?_
    refine K_ifT rfl ?_
    refine K_seq ?_
    refine K_region ?_
    refine KV (R_assign rfl) rfl ?_
    refine K_nil ?_
    refine Q_then ?_
    refine K_ret ?_
    refine Q_block_ret ?_
    refine Q_then_ret ?_
    refine results_gen (rs := [.tmp 4]) (vs := [_]) rfl ⟨rfl, trivial⟩ ?_
    rw [hunf, if_pos (.inl (by omega))]
    rfl
  ·
    intro h12
    refine K_gyes rfl rfl ?_
    refine KV (R_fieldAddr 0 fd30_0 rfl) rfl ?_
    refine K_gyes rfl rfl ?_
    refine KV (R_loadO ty3 0 rfl rfl rfl rfl (fun _ => rfl) rfl) rfl ?_
    refine K_gyes rfl rfl ?_
    refine KV (R_move rfl) rfl ?_
    refine K_gyes rfl rfl ?_
    refine KV (R_len sl47 rfl) rfl ?_
    refine K_gyes rfl rfl ?_
    refine KV (R_cmp rfl rfl rfl) rfl ?_
    refine KV (R_pickF rfl rfl) rfl ?_
    refine KV (R_assign rfl) rfl ?_
    refine K_nil ?_
    refine Q_then ?_
    refine K_if rfl (fun h8 => ?_) (fun h8 => ?_)
    ·
      refine K_seq ?_
      refine K_region ?_
      refine KV (R_assign rfl) rfl ?_
      refine K_nil ?_
      refine Q_then ?_
      refine K_ret ?_
      refine Q_block_ret ?_
      refine Q_then_ret ?_
      refine results_gen (rs := [.tmp 4]) (vs := [_]) rfl ⟨rfl, trivial⟩ ?_
      rw [hunf, if_pos (.inr (by omega))]
      rfl
    ·
      have hs0 : 0 ≤ s := by omega
      have hs1 : s < rk.length := by omega
      have hs2 : s.toNat < rk.length := by omega
      obtain ⟨rb, ro, rfl, hrk⟩ := hrv.get hs2
      have hgd : rk.getD s.toNat 0 = rk[s.toNat] := by simp [List.getD, hs2]
      refine K_seq ?_
      refine K_regionD (fin := false) (R := [0, 1, 2, 3, 4, 5, 6, 7, 8, 9]) (by kernel_rfl) mixed (.cons_cons _ (List.nil_sublist _)) ?_
      refine D_val rfl rfl rfl (R_fieldAddr 1 fd30_1 rfl) ?_
      refine D_val rfl rfl rfl (R_loadO ty28 0 rfl rfl rfl rfl (fun _ => rfl) rfl) ?_
      refine D_val rfl rfl rfl (R_len sl28 rfl) ?_
      refine D_val rfl rfl rfl (R_move rfl) ?_
      refine D_val rfl rfl rfl (R_fieldAddr 0 fd30_0 rfl) ?_
      refine D_val rfl rfl rfl (R_loadO ty3 0 rfl rfl rfl rfl (fun _ => rfl) rfl) ?_
      refine D_val rfl rfl rfl (R_index sl47 ty3 rfl rfl ⟨hs0, hs1⟩) ?_
      refine D_val rfl rfl rfl (R_loadH ty3 rfl (hrk) rfl (fun _ => rfl) rfl) ?_
      refine D_val rfl rfl rfl (R_cmp rfl rfl rfl) ?_
      refine D_val rfl rfl rfl (R_assign rfl) ?_
      refine D_done ?_
      refine Q_then ?_
      refine K_if rfl (fun h19 => ?_) (fun h19 => ?_)
      ·
        refine K_seq ?_
        refine K_region ?_
        refine KV (R_assign rfl) rfl ?_
        refine K_nil ?_
        refine Q_then ?_
        refine K_ret ?_
        refine Q_block_ret ?_
        refine Q_then_ret ?_
        refine results_gen (rs := [.tmp 4]) (vs := [_]) rfl ⟨rfl, trivial⟩ ?_
        rw [hunf, if_neg (by omega), hgd, if_pos h19]
        rfl
      ·
        refine K_skip ?_
        refine Q_block ?_
        refine Q_then ?_
        refine K_seq ?_
        refine K_seq ?_
        refine K_region ?_
        refine KV (R_fieldAddr 1 fd30_1 rfl) rfl ?_
        refine KV (R_loadO ty28 0 rfl rfl rfl rfl (fun _ => rfl) rfl) rfl ?_
        refine KV (R_len sl28 rfl) rfl ?_
        refine KV (R_move rfl) rfl ?_
        refine K_nil ?_
        refine Q_then ?_
        refine K_block ?_
        refine K_loopD (G := Nat × View) [4, 6, 7, 32, 33, 34, 35, 36, 37, 38, 39, 40, 41, 42] (fun g => [(32, .int .i64 (g.1 : Int))]) (fun hl g => hl) (fun g => g.2) (fun g => (g.1 ≤ ts.length) ∧ (VLe H g.2) ∧ (Tr.nodesErrs rk ts = Tr.nodesErrs rk (ts.drop g.1))) (fun g => ts.length - g.1) (0, H) ⟨Nat.zero_le _, VLe.refl _, rfl⟩ ⟨rfl, trivial⟩ (by simp only [args0, Nat.reduceAdd, del, memN, beqN, Nat.reduceBEq, cond_true, cond_false]; rfl) rfl rfl ?_
        rintro ⟨k, V⟩ ⟨hk, hV, hcm⟩
        dsimp only at hk hV hcm
        dsimp only [List.set, List.cons_append, List.nil_append]
        refine K_seq ?_
        refine K_region ?_
        refine KV (R_cmp rfl rfl rfl) rfl ?_
        refine K_nil ?_
        refine Q_then ?_
        refine K_seq ?_
        refine K_if rfl (fun h33 => ?_) (fun h33 => ?_)
        ·
          have hlt' : k < ts.length := by omega
          have htk := Tr.sizes_take ts k hlt'
          have hle' := Tr.sizes_take_le ts (k + 1)
          have hcd := Tr.nodesErrs_cons (rk := rk) hlt'
          have ha' := ha (by intro e; subst e; simp at hlt')
          subst ha'
          obtain ⟨y0, y1, y2, y3, hcs⟩ := (hrec k hlt').shape
          have hreck := (hrec k hlt').mono hV
          rw [hcs] at hreck
          refine K_skip ?_
          refine Q_then ?_
          refine K_seq ?_
          refine K_block ?_
          refine K_seq ?_
          refine K_region ?_
          refine KV (R_indexN sl28 ty30 rfl rfl (by omega)) rfl ?_
          refine KV (R_loadH ty30 rfl (hcs ▸ (hA k hlt').2.mono hV) rfl (fun e => by cases e) rfl) rfl ?_
          refine KA (A_alloc z30) rfl fun b6 => ?_
          refine K_store ty30 0 rfl rfl rfl rfl rfl rfl ?_
          refine K_nil ?_
          refine Q_then ?_
          refine K_seq ?_
          refine K_region ?_
          refine KV (R_move rfl) rfl ?_
          refine KV (R_loadO ty30 0 rfl rfl rfl rfl (fun e => by cases e) rfl) rfl ?_
          refine K_call c115 rfl rfl (ih ts[k] V _ (by omega) (by omega) hreck (hrv.mono hV)) ?_
          rintro _ V1 hle1 rfl
          refine KV (R_assign rfl) rfl ?_
          refine K_nil ?_
          refine Q_then ?_
          refine K_seq ?_
          refine K_region ?_
          refine KV (R_move rfl) rfl ?_
          refine KV (R_cmp rfl rfl rfl) rfl ?_
          refine K_nil ?_
          refine Q_then ?_
          refine K_if rfl (fun h40 => ?_) (fun h40 => ?_)
          ·
            refine K_seq ?_
            refine K_region ?_
            refine KV (R_move rfl) rfl ?_
            refine KV (R_assign rfl) rfl ?_
            refine K_nil ?_
            refine Q_then ?_
            refine K_ret ?_
            refine Q_block_ret ?_
            refine Q_then_ret ?_
            refine Q_then_ret ?_
            refine Q_block_ret ?_
            refine Q_then_ret ?_
            refine results_gen (rs := [.tmp 4]) (vs := [_]) rfl ⟨rfl, trivial⟩ ?_
            rw [hunf, if_neg (by omega), hgd, if_neg h19, hcm, hcd, if_pos h40]
            rfl
          ·
            refine K_skip ?_
            refine Q_block ?_
            refine Q_then ?_
            refine K_region ?_
            refine KV (R_add rfl rfl (by omega)) rfl ?_
            refine KV (R_move rfl) rfl ?_
            refine K_nil ?_
            refine KQ_sel [1] rfl ?_
            refine Q_nextD (k + 1, V1) ⟨hlt', hV.trans hle1, by rw [hcm, hcd, if_neg h40]⟩ (by (try dsimp only); omega) ⟨rfl, trivial⟩ rfl rfl rfl
        ·
          have hk' : k = ts.length := by omega
          subst hk'
          refine K_exit ?_
          refine Q_then_exit ?_
          refine Q_then_exit ?_
          refine Q_block_exit ?_
          refine Q_then ?_
          refine K_seq ?_
          refine K_region ?_
          refine KV (R_assign rfl) rfl ?_
          refine K_nil ?_
          refine Q_then ?_
          refine K_ret ?_
          refine results_gen (rs := [.tmp 4]) (vs := [_]) rfl ⟨rfl, trivial⟩ ?_
          rw [hunf, if_neg (by omega), hgd, if_neg h19, hcm, List.drop_length]
          rfl

theorem psize_spec : ∀ m t H cs, t.size ≤ m → m ≤ 1099511627776 → RepT H t cs → Sat Tryz.prog F118 #[.agg cs.toArray] H (fun v _ => v = .int .i64 (t.size : Int)) := by
  intro m
  induction m with
  | zero => intro t H cs h; have := t.size_pos; omega
  | succ m ih =>
  intro t H cs hm hb hr
  cases hr with | mk s ts a cap b off cs' hs ha hA hrec =>
  have hsz : (Tr.node s ts).size = 1 + Tr.sizes ts := rfl
  have hln := Tr.length_le_sizes ts
  have hdl := Tr.deeps_le ts
  refine enterO (n := 19) (args := [.agg #[.int .i64 s, .slice a ts.length cap]]) Tryz.func146 rfl rfl rfl fun w0 => ?_
  refine K_seq ?_
  refine K_region ?_
  refine KA (A_box rfl) rfl fun b1 => ?_
  refine KV (R_assign rfl) rfl ?_
  refine K_nil ?_
  refine Q_then ?_
  refine K_seq ?_
  refine K_region ?_
  refine KV (R_assign rfl) rfl ?_
  refine K_nil ?_
  refine Q_then ?_
  refine K_seq ?_
  refine K_seq ?_
  refine K_region ?_
  refine KV (R_fieldAddr 1 fd30_1 rfl) rfl ?_
  refine KV (R_loadO ty28 0 rfl rfl rfl rfl (fun _ => rfl) rfl) rfl ?_
  refine KV (R_len sl28 rfl) rfl ?_
  refine KV (R_move rfl) rfl ?_
  refine K_nil ?_
  refine Q_then ?_
  refine K_block ?_
  refine K_loopD (G := Nat × View) [3, 5, 9, 10, 11, 12, 13, 14, 15, 16, 17] (fun g => [(9, .int .i64 (g.1 : Int)), (3, .int .i64 (1 + (Tr.sizes (ts.take g.1) : Int)))]) (fun hl g => hl) (fun g => g.2) (fun g => (g.1 ≤ ts.length) ∧ (VLe H g.2)) (fun g => ts.length - g.1) (0, H) ⟨Nat.zero_le _, VLe.refl _⟩ ⟨rfl, rfl, trivial⟩ (by simp only [args0, Nat.reduceAdd, del, memN, beqN, Nat.reduceBEq, cond_true, cond_false]; rfl) rfl rfl ?_
  rintro ⟨k, V⟩ ⟨hk, hV⟩
  dsimp only at hk hV
  dsimp only [List.set, List.cons_append, List.nil_append]
  refine K_seq ?_
  refine K_region ?_
  refine KV (R_cmp rfl rfl rfl) rfl ?_
  refine K_nil ?_
  refine Q_then ?_
  refine K_seq ?_
  refine K_if rfl (fun h10 => ?_) (fun h10 => ?_)
  ·
    have hlt' : k < ts.length := by omega
    have htk := Tr.sizes_take ts k hlt'
    have hle' := Tr.sizes_take_le ts (k + 1)
    have hdk := Tr.deeps_take ts k hlt'
    have hdk2 := Tr.deeps_append (ts.take (k + 1)) (ts.drop (k + 1))
    rw [List.take_append_drop] at hdk2
    have ha' := ha (by intro e; subst e; simp at hlt')
    subst ha'
    obtain ⟨y0, y1, y2, y3, hcs⟩ := (hrec k hlt').shape
    have hreck := (hrec k hlt').mono hV
    rw [hcs] at hreck
    refine K_skip ?_
    refine Q_then ?_
    refine K_seq ?_
    refine K_block ?_
    refine K_seq ?_
    refine K_region ?_
    refine KV (R_indexN sl28 ty30 rfl rfl (by omega)) rfl ?_
    refine KV (R_loadH ty30 rfl (hcs ▸ (hA k hlt').2.mono hV) rfl (fun e => by cases e) rfl) rfl ?_
    refine KA (A_alloc z30) rfl fun b5 => ?_
    refine K_store ty30 0 rfl rfl rfl rfl rfl rfl ?_
    refine K_nil ?_
    refine Q_then ?_
    refine K_region ?_
    refine KV (R_move rfl) rfl ?_
    refine KV (R_loadO ty30 0 rfl rfl rfl rfl (fun e => by cases e) rfl) rfl ?_
    refine K_call c118 rfl rfl (ih ts[k] V _ (by omega) (by omega) hreck) ?_
    rintro _ V1 hle1 rfl
    refine KV (R_add rfl rfl (by omega)) rfl ?_
    refine KV (R_assign rfl) rfl ?_
    refine K_nil ?_
    refine Q_block ?_
    refine Q_then ?_
    refine K_region ?_
    refine KV (R_add rfl rfl (by omega)) rfl ?_
    refine KV (R_move rfl) rfl ?_
    refine K_nil ?_
    refine KQ_sel [1] rfl ?_
    refine Q_nextD (k + 1, V1) ⟨hlt', hV.trans hle1⟩ (by (try dsimp only); omega) ⟨rfl, congrArg (fun z => some (Value.int .i64 z)) (by dsimp only; omega), trivial⟩ rfl rfl rfl
  ·
    have hk' : k = ts.length := by omega
    subst hk'
    rw [List.take_length]
    refine K_exit ?_
    refine Q_then_exit ?_
    refine Q_then_exit ?_
    refine Q_block_exit ?_
    refine Q_then ?_
    refine K_seq ?_
    refine K_region ?_
    refine KV (R_move rfl) rfl ?_
    refine KV (R_assign rfl) rfl ?_
    refine K_nil ?_
    refine Q_then ?_
    refine K_ret ?_
    refine results_gen (rs := [.tmp 2]) (vs := [_]) rfl ⟨rfl, trivial⟩ ?_
    simp [tupV, Tr.size]

theorem pdepth_spec : ∀ m t H cs, t.size ≤ m → m ≤ 1099511627776 → RepT H t cs → Sat Tryz.prog F119 #[.agg cs.toArray] H (fun v _ => v = .int .i64 (t.deep : Int)) := by
  intro m
  induction m with
  | zero => intro t H cs h; have := t.size_pos; omega
  | succ m ih =>
  intro t H cs hm hb hr
  cases hr with | mk s ts a cap b off cs' hs ha hA hrec =>
  have hsz : (Tr.node s ts).size = 1 + Tr.sizes ts := rfl
  have hln := Tr.length_le_sizes ts
  have hdl := Tr.deeps_le ts
  refine enterO (n := 20) (args := [.agg #[.int .i64 s, .slice a ts.length cap]]) Tryz.func181 rfl rfl rfl fun w0 => ?_
  refine K_seq ?_
  refine K_region ?_
  refine KA (A_box rfl) rfl fun b1 => ?_
  refine KV (R_assign rfl) rfl ?_
  refine K_nil ?_
  refine Q_then ?_
  refine K_seq ?_
  refine K_region ?_
  refine KV (R_assign rfl) rfl ?_
  refine K_nil ?_
  refine Q_then ?_
  refine K_seq ?_
  refine K_seq ?_
  refine K_region ?_
  refine KV (R_fieldAddr 1 fd30_1 rfl) rfl ?_
  refine KV (R_loadO ty28 0 rfl rfl rfl rfl (fun _ => rfl) rfl) rfl ?_
  refine KV (R_len sl28 rfl) rfl ?_
  refine KV (R_move rfl) rfl ?_
  refine K_nil ?_
  refine Q_then ?_
  refine K_block ?_
  refine K_loopD (G := Nat × View) [3, 5, 9, 10, 11, 12, 13, 14, 15, 16, 17] (fun g => [(9, .int .i64 (g.1 : Int)), (3, .int .i64 (Tr.deeps (ts.take g.1) : Int))]) (fun hl g => hl) (fun g => g.2) (fun g => (g.1 ≤ ts.length) ∧ (VLe H g.2)) (fun g => ts.length - g.1) (0, H) ⟨Nat.zero_le _, VLe.refl _⟩ ⟨rfl, rfl, trivial⟩ (by simp only [args0, Nat.reduceAdd, del, memN, beqN, Nat.reduceBEq, cond_true, cond_false]; rfl) rfl rfl ?_
  rintro ⟨k, V⟩ ⟨hk, hV⟩
  dsimp only at hk hV
  dsimp only [List.set, List.cons_append, List.nil_append]
  refine K_seq ?_
  refine K_region ?_
  refine KV (R_cmp rfl rfl rfl) rfl ?_
  refine K_nil ?_
  refine Q_then ?_
  refine K_seq ?_
  refine K_if rfl (fun h10 => ?_) (fun h10 => ?_)
  ·
    have hlt' : k < ts.length := by omega
    have htk := Tr.sizes_take ts k hlt'
    have hle' := Tr.sizes_take_le ts (k + 1)
    have hdk := Tr.deeps_take ts k hlt'
    have hdk2 := Tr.deeps_append (ts.take (k + 1)) (ts.drop (k + 1))
    rw [List.take_append_drop] at hdk2
    have ha' := ha (by intro e; subst e; simp at hlt')
    subst ha'
    obtain ⟨y0, y1, y2, y3, hcs⟩ := (hrec k hlt').shape
    have hreck := (hrec k hlt').mono hV
    rw [hcs] at hreck
    refine K_skip ?_
    refine Q_then ?_
    refine K_seq ?_
    refine K_block ?_
    refine K_seq ?_
    refine K_region ?_
    refine KV (R_indexN sl28 ty30 rfl rfl (by omega)) rfl ?_
    refine KV (R_loadH ty30 rfl (hcs ▸ (hA k hlt').2.mono hV) rfl (fun e => by cases e) rfl) rfl ?_
    refine KA (A_alloc z30) rfl fun b5 => ?_
    refine K_store ty30 0 rfl rfl rfl rfl rfl rfl ?_
    refine K_nil ?_
    refine Q_then ?_
    refine K_region ?_
    refine KV (R_move rfl) rfl ?_
    refine KV (R_loadO ty30 0 rfl rfl rfl rfl (fun e => by cases e) rfl) rfl ?_
    refine K_call c119 rfl rfl (ih ts[k] V _ (by omega) (by omega) hreck) ?_
    rintro _ V1 hle1 rfl
    refine KV (R_max2 rfl rfl) rfl ?_
    refine KV (R_assign rfl) rfl ?_
    refine K_nil ?_
    refine Q_block ?_
    refine Q_then ?_
    refine K_region ?_
    refine KV (R_add rfl rfl (by omega)) rfl ?_
    refine KV (R_move rfl) rfl ?_
    refine K_nil ?_
    refine KQ_sel [1] rfl ?_
    refine Q_nextD (k + 1, V1) ⟨hlt', hV.trans hle1⟩ (by (try dsimp only); omega) ⟨rfl, congrArg (fun z => some (Value.int .i64 z)) (by dsimp only; split <;> omega), trivial⟩ rfl rfl rfl
  ·
    have hk' : k = ts.length := by omega
    subst hk'
    rw [List.take_length]
    refine K_exit ?_
    refine Q_then_exit ?_
    refine Q_then_exit ?_
    refine Q_block_exit ?_
    refine Q_then ?_
    refine K_seq ?_
    refine K_region ?_
    refine KV (R_move rfl) rfl ?_
    refine KV (R_add rfl rfl (by omega)) rfl ?_
    refine KV (R_assign rfl) rfl ?_
    refine K_nil ?_
    refine Q_then ?_
    refine K_ret ?_
    refine results_gen (rs := [.tmp 2]) (vs := [_]) rfl ⟨rfl, trivial⟩ ?_
    simp [tupV, Tr.deep]

theorem psmall_spec (t : Tr) (H : View) (cs : List Value) (hb : t.size ≤ 1073741824) (hr : RepT H t cs) : Sat Tryz.prog F114 #[.agg cs.toArray] H (fun r _ => r = .int .i64 (if (4096 : Int) < t.size then 2 else if (256 : Int) < t.deep then 16 else 0)) := by
  obtain ⟨x0, x1, x2, x3, rfl⟩ := hr.shape
  refine enterO (n := 11) (args := [.agg #[.int .i64 x0, .slice x1 x2 x3]]) Tryz.func139 rfl rfl rfl fun w0 => ?_
  refine K_seq ?_
  refine K_region ?_
  refine KA (A_box rfl) rfl fun b1 => ?_
  refine KV (R_assign rfl) rfl ?_
  refine K_nil ?_
  refine Q_then ?_
  refine K_seq ?_
  refine K_block ?_
  refine K_seq ?_
  refine K_region ?_
  refine KV (R_loadO ty30 0 rfl rfl rfl rfl (fun e => by cases e) rfl) rfl ?_
  refine K_call c118 rfl rfl (psize_spec t.size t H _ (Nat.le_refl _) (by omega) hr) ?_
  rintro _ V1 hv1 rfl
  refine KV (R_cmp rfl rfl rfl) rfl ?_
  refine KV (R_assign rfl) rfl ?_
  refine K_nil ?_
  refine Q_then ?_
  refine K_if rfl (fun h3 => ?_) (fun h3 => ?_)
  ·
    refine K_seq ?_
    refine K_region ?_
    refine KV (R_assign rfl) rfl ?_
    refine K_nil ?_
    refine Q_then ?_
    refine K_ret ?_
    refine Q_block_ret ?_
    refine Q_then_ret ?_
    refine results_gen (rs := [.tmp 2]) (vs := [_]) rfl ⟨rfl, trivial⟩ ?_
    rw [if_pos h3]
    rfl
  ·
    refine K_seq ?_
    refine K_region ?_
    refine KV (R_loadO ty30 0 rfl rfl rfl rfl (fun e => by cases e) rfl) rfl ?_
    refine K_call c119 rfl rfl (pdepth_spec t.size t V1 _ (Nat.le_refl _) (by omega) (hr.mono hv1)) ?_
    rintro _ V2 hv2 rfl
    refine KV (R_cmp rfl rfl rfl) rfl ?_
    refine KV (R_assign rfl) rfl ?_
    refine K_nil ?_
    refine Q_then ?_
    refine K_if rfl (fun h7 => ?_) (fun h7 => ?_)
    ·
      refine K_seq ?_
      refine K_region ?_
      refine KV (R_assign rfl) rfl ?_
      refine K_nil ?_
      refine Q_then ?_
      refine K_ret ?_
      refine Q_block_ret ?_
      refine Q_then_ret ?_
      refine results_gen (rs := [.tmp 2]) (vs := [_]) rfl ⟨rfl, trivial⟩ ?_
      rw [if_neg h3, if_pos h7]
      rfl
    ·
      refine K_skip ?_
      refine Q_block ?_
      refine Q_then ?_
      refine K_seq ?_
      refine K_region ?_
      refine KV (R_assign rfl) rfl ?_
      refine K_nil ?_
      refine Q_then ?_
      refine K_ret ?_
      refine results_gen (rs := [.tmp 2]) (vs := [_]) rfl ⟨rfl, trivial⟩ ?_
      rw [if_neg h3, if_neg h7]
      rfl

theorem pvalid_spec (rk : List Int) (rv : Value) (t : Tr) (H : View) (cs : List Value) (hrkl : rk.length ≤ 1048576) (hb : t.size ≤ 1073741824) (hr : RepT H t cs) (hrv : SI H rv rk) : Sat Tryz.prog F98 #[rv, .agg cs.toArray] H (fun r _ => r = .int .i64 (validErr rk t)) := by
  obtain ⟨x0, x1, x2, x3, rfl⟩ := hr.shape
  obtain ⟨va, vc, rfl⟩ := hrv.shape
  refine enterO (n := 20) (args := [.slice va rk.length vc, .agg #[.int .i64 x0, .slice x1 x2 x3]]) Tryz.func92 rfl rfl rfl fun w0 => ?_
  refine K_seq ?_
  refine K_region ?_
  refine KA (A_box rfl) rfl fun b3 => ?_
  refine KV (R_assign rfl) rfl ?_
  refine K_nil ?_
  refine Q_then ?_
  refine K_seq ?_
  refine K_seq ?_
  refine K_region ?_
  refine KV (R_move rfl) rfl ?_
  refine K_call c72 rfl rfl (acheck_spec rk _ H hrv (by omega)) ?_
  rintro _ V1 hv1 rfl
  refine KV (R_assign rfl) rfl ?_
  refine K_nil ?_
  refine Q_then ?_
  refine K_seq ?_
  refine K_region ?_
  refine KV (R_move rfl) rfl ?_
  refine KV (R_cmp rfl rfl rfl) rfl ?_
  refine K_nil ?_
  refine Q_then ?_
  refine K_if rfl (fun h10 => ?_) (fun h10 => ?_)
  ·
    refine K_seq ?_
    refine K_region ?_
    refine KV (R_move rfl) rfl ?_
    refine KV (R_assign rfl) rfl ?_
    refine K_nil ?_
    refine Q_then ?_
    refine K_ret ?_
    refine Q_then_ret ?_
    refine results_gen (rs := [.tmp 4]) (vs := [_]) rfl ⟨rfl, trivial⟩ ?_
    simp only [tupV, validErr]
    rw [if_pos h10]
  ·
    refine K_skip ?_
    refine Q_then ?_
    refine K_seq ?_
    refine K_seq ?_
    refine K_region ?_
    refine KV (R_loadO ty30 0 rfl rfl rfl rfl (fun e => by cases e) rfl) rfl ?_
    refine K_call c114 rfl rfl (psmall_spec t V1 _ hb (hr.mono hv1)) ?_
    rintro _ V2 hv2 rfl
    refine KV (R_assign rfl) rfl ?_
    refine K_nil ?_
    refine Q_then ?_
    refine K_seq ?_
    refine K_region ?_
    refine KV (R_move rfl) rfl ?_
    refine KV (R_cmp rfl rfl rfl) rfl ?_
    refine K_nil ?_
    refine Q_then ?_
    refine K_if rfl (fun h15 => ?_) (fun h15 => ?_)
    ·
      refine K_seq ?_
      refine K_region ?_
      refine KV (R_move rfl) rfl ?_
      refine KV (R_assign rfl) rfl ?_
      refine K_nil ?_
      refine Q_then ?_
      refine K_ret ?_
      refine Q_then_ret ?_
      refine results_gen (rs := [.tmp 4]) (vs := [_]) rfl ⟨rfl, trivial⟩ ?_
      simp only [tupV, validErr]
      rw [if_neg h10]
      refine congrArg (Value.int .i64) ?_
      split
      · rfl
      · split
        · rfl
        · rename_i g1 g2; rw [if_neg g1, if_neg g2] at h15; exact absurd rfl h15
    ·
      refine K_skip ?_
      refine Q_then ?_
      refine K_seq ?_
      refine K_region ?_
      refine KV (R_move rfl) rfl ?_
      refine KV (R_loadO ty30 0 rfl rfl rfl rfl (fun e => by cases e) rfl) rfl ?_
      refine K_call c115 rfl rfl (right_spec rk _ (by omega) t.size t V2 _ (Nat.le_refl _) (by omega) (hr.mono (hv1.trans hv2)) (hrv.mono (hv1.trans hv2))) ?_
      rintro _ V3 hv3 rfl
      refine KV (R_assign rfl) rfl ?_
      refine K_nil ?_
      refine Q_then ?_
      refine K_ret ?_
      refine results_gen (rs := [.tmp 4]) (vs := [_]) rfl ⟨rfl, trivial⟩ ?_
      simp only [tupV, validErr]
      rw [if_neg h10]
      refine congrArg (Value.int .i64) ?_
      split
      · rename_i g1; rw [if_pos g1] at h15; exact absurd h15 (by decide)
      · split
        · rename_i g1 g2; rw [if_neg g1, if_pos g2] at h15; exact absurd h15 (by decide)
        · rfl
end Go.Proofs.X

namespace Go.Proofs.X
open Go Pal Go.Proofs
attribute [local irreducible] Pal.KO Pal.KC Pal.KQ Pal.KD
theorem c63 : callable Tryz.prog F63 = true := by kernel_rfl
theorem c65 : callable Tryz.prog F65 = true := by kernel_rfl
theorem c73 : callable Tryz.prog F73 = true := by kernel_rfl
theorem c74 : callable Tryz.prog F74 = true := by kernel_rfl
theorem c76 : callable Tryz.prog F76 = true := by kernel_rfl
theorem c91 : callable Tryz.prog F91 = true := by kernel_rfl
theorem c98 : callable Tryz.prog F98 = true := by kernel_rfl
theorem c99 : callable Tryz.prog F99 = true := by kernel_rfl
theorem maps_spec (ls src dst : List Int) (v1 v2 v3 : Value) (H : View) (h1 : SI H v1 ls) (h2 : SI H v2 src) (h3 : SI H v3 dst) (hb1 : ls.length ≤ 1099511627776) : Sat Tryz.prog F37 #[v1, v2, v3] H (fun r _ => r = .bool (mapsM ls src dst)) := by
  obtain ⟨a1, k1, rfl⟩ := h1.shape
  obtain ⟨a2, k2, rfl⟩ := h2.shape
  obtain ⟨a3, k3, rfl⟩ := h3.shape
  refine enterO (n := 47) (args := [.slice a1 ls.length k1, .slice a2 src.length k2, .slice a3 dst.length k3]) Tryz.func14 rfl rfl rfl fun w0 => ?_
  refine K_seq ?_
  refine K_region ?_
  refine KV (R_assign rfl) rfl ?_
  refine K_nil ?_
  refine Q_then ?_
  refine K_seq ?_
  refine K_seq ?_
  refine K_region ?_
  refine KV (R_move rfl) rfl ?_
  refine KV (R_len sl25 rfl) rfl ?_
  refine KV (R_move rfl) rfl ?_
  refine KV (R_len sl25 rfl) rfl ?_
  refine KV (R_cmp rfl rfl rfl) rfl ?_
  refine K_nil ?_
  refine Q_then ?_
  refine K_if rfl (fun h12 => ?_) (fun h12 => ?_)
  ·
    refine K_seq ?_
    refine K_region ?_
    refine KV (R_assign rfl) rfl ?_
    refine K_nil ?_
    refine Q_then ?_
    refine K_ret ?_
    refine Q_then_ret ?_
    refine results_gen (rs := [.tmp 6]) (vs := [_]) rfl ⟨rfl, trivial⟩ ?_
    refine congrArg Value.bool (Eq.symm ?_)
    first
      | exact mapsM_iff.2 ⟨by omega, fun j h h2 => hyes j h h2 (by omega)⟩
      | (rw [Bool.eq_false_iff]; intro hm; obtain ⟨g1, g2⟩ := mapsM_iff.1 hm; first | omega | (have g3 := g2 k hk' hk2; first | omega | (rw [hgd] at g3; omega)))
  ·
    refine K_skip ?_
    refine Q_then ?_
    refine K_seq ?_
    refine K_seq ?_
    refine K_region ?_
    refine KV (R_assign rfl) rfl ?_
    refine K_nil ?_
    refine Q_then ?_
    refine K_block ?_
    refine K_loopD (G := Nat) [6, 7, 13, 14, 15, 16, 17, 18, 19, 20, 21, 22, 23, 24, 25, 26, 27, 28, 29, 30, 31, 32, 33, 34, 35, 36, 37, 38, 39, 40, 41, 42, 43, 44, 45, 46] (fun g => [(7, .int .i64 (g : Int))]) (fun hl g => hl) (fun g => H) (fun g => (g ≤ ls.length) ∧ (∀ j (h : j < ls.length) (h2 : j < src.length), j < g → (0 ≤ ls[j] ∧ ls[j] < dst.length) ∧ dst.getD ls[j].toNat 0 = src[j])) (fun g => ls.length - g) 0 ⟨Nat.zero_le _, fun j _ _ h => by simp at h⟩ ⟨rfl, trivial⟩ (by simp only [args0, Nat.reduceAdd, del, memN, beqN, Nat.reduceBEq, cond_true, cond_false]; rfl) rfl rfl ?_
    rintro k ⟨hk, hyes⟩
    try dsimp only at hk
    try dsimp only at hyes
    dsimp only [List.set, List.cons_append, List.nil_append]
    refine K_seq ?_
    refine K_seq ?_
    refine K_region ?_
    refine KV (R_move rfl) rfl ?_
    refine KV (R_move rfl) rfl ?_
    refine KV (R_len sl25 rfl) rfl ?_
    refine KV (R_cmp rfl rfl rfl) rfl ?_
    refine K_nil ?_
    refine Q_then ?_
    refine K_if rfl (fun h16 => ?_) (fun h16 => ?_)
    ·
      have hk' : k < ls.length := by omega
      have hk2 : k < src.length := by omega
      obtain ⟨tb, to_, hte, hta⟩ := h1.get hk'
      cases hte
      obtain ⟨sb, so, hse, hsx⟩ := h2.get hk2
      cases hse
      refine K_skip ?_
      refine Q_then ?_
      refine K_seq ?_
      refine K_block ?_
      refine K_seq ?_
      refine K_regionD (fin := false) (R := [0, 1, 2, 3, 4, 5, 6, 7, 8, 9, 10, 11, 12, 13, 14, 15, 16, 17, 18, 19, 20, 21, 22, 23, 24, 25, 26, 27]) (by kernel_rfl) mixed (List.nil_sublist _) ?_
      refine D_val rfl rfl rfl (R_move rfl) ?_
      refine D_val rfl rfl rfl (R_move rfl) ?_
      refine D_val rfl rfl rfl (R_indexN sl25 ty3 rfl rfl (by omega)) ?_
      refine D_val rfl rfl rfl (R_loadH ty3 rfl (hta) rfl (fun _ => rfl) rfl) ?_
      refine D_val rfl rfl rfl (R_cmp rfl rfl rfl) ?_
      refine D_val rfl rfl rfl (R_move rfl) ?_
      refine D_split ?_ ?_
      ·
        intro h24
        refine D_skip rfl rfl ?_
        refine D_skip rfl rfl ?_
        refine D_skip rfl rfl ?_
        refine D_skip rfl rfl ?_
        refine D_skip rfl rfl ?_
        refine D_skip rfl rfl ?_
        refine D_skip rfl rfl ?_
        refine D_val rfl rfl rfl (R_pickT rfl rfl) ?_
        refine D_val rfl rfl rfl (R_move rfl) ?_
        refine D_skip rfl rfl ?_
        refine D_skip rfl rfl ?_
        refine D_skip rfl rfl ?_
        refine D_skip rfl rfl ?_
        refine D_skip rfl rfl ?_
        refine D_skip rfl rfl ?_
        refine D_skip rfl rfl ?_
        refine D_skip rfl rfl ?_
        refine D_skip rfl rfl ?_
        refine D_skip rfl rfl ?_
        refine D_skip rfl rfl ?_
        refine D_skip rfl rfl ?_
        refine D_val rfl rfl rfl (R_pickT rfl rfl) ?_
        refine D_done ?_
        refine Q_then ?_
        refine K_ifT rfl ?_
        refine K_seq ?_
        refine K_region ?_
        refine KV (R_assign rfl) rfl ?_
        refine K_nil ?_
        refine Q_then ?_
        refine K_ret ?_
        refine Q_block_ret ?_
        refine Q_then_ret ?_
        refine Q_then_ret ?_
        refine Q_block_ret ?_
        refine Q_then_ret ?_
        refine results_gen (rs := [.tmp 6]) (vs := [_]) rfl ⟨rfl, trivial⟩ ?_
        refine congrArg Value.bool (Eq.symm ?_)
        first
          | exact mapsM_iff.2 ⟨by omega, fun j h h2 => hyes j h h2 (by omega)⟩
          | (rw [Bool.eq_false_iff]; intro hm; obtain ⟨g1, g2⟩ := mapsM_iff.1 hm; first | omega | (have g3 := g2 k hk' hk2; first | omega | (rw [hgd] at g3; omega)))
      ·
        intro h24
        refine D_val rfl rfl rfl (R_move rfl) ?_
        refine D_val rfl rfl rfl (R_move rfl) ?_
        refine D_val rfl rfl rfl (R_indexN sl25 ty3 rfl rfl (by omega)) ?_
        refine D_val rfl rfl rfl (R_loadH ty3 rfl (hta) rfl (fun _ => rfl) rfl) ?_
        refine D_val rfl rfl rfl (R_move rfl) ?_
        refine D_val rfl rfl rfl (R_len sl25 rfl) ?_
        refine D_val rfl rfl rfl (R_cmp rfl rfl rfl) ?_
        refine D_val rfl rfl rfl (R_pickF rfl rfl) ?_
        refine D_val rfl rfl rfl (R_move rfl) ?_
        refine D_split ?_ ?_
        ·
          intro h33
          refine D_skip rfl rfl ?_
          refine D_skip rfl rfl ?_
          refine D_skip rfl rfl ?_
          refine D_skip rfl rfl ?_
          refine D_skip rfl rfl ?_
          refine D_skip rfl rfl ?_
          refine D_skip rfl rfl ?_
          refine D_skip rfl rfl ?_
          refine D_skip rfl rfl ?_
          refine D_skip rfl rfl ?_
          refine D_skip rfl rfl ?_
          refine D_skip rfl rfl ?_
          refine D_val rfl rfl rfl (R_pickT rfl rfl) ?_
          refine D_done ?_
          refine Q_then ?_
          refine K_ifT rfl ?_
          refine K_seq ?_
          refine K_region ?_
          refine KV (R_assign rfl) rfl ?_
          refine K_nil ?_
          refine Q_then ?_
          refine K_ret ?_
          refine Q_block_ret ?_
          refine Q_then_ret ?_
          refine Q_then_ret ?_
          refine Q_block_ret ?_
          refine Q_then_ret ?_
          refine results_gen (rs := [.tmp 6]) (vs := [_]) rfl ⟨rfl, trivial⟩ ?_
          refine congrArg Value.bool (Eq.symm ?_)
          first
            | exact mapsM_iff.2 ⟨by omega, fun j h h2 => hyes j h h2 (by omega)⟩
            | (rw [Bool.eq_false_iff]; intro hm; obtain ⟨g1, g2⟩ := mapsM_iff.1 hm; first | omega | (have g3 := g2 k hk' hk2; first | omega | (rw [hgd] at g3; omega)))
        ·
          intro h33
          have hx1 : ls[k].toNat < dst.length := by omega
          obtain ⟨db, do_, hde, hdx⟩ := h3.get hx1
          cases hde
          have hgd : dst.getD ls[k].toNat 0 = dst[ls[k].toNat] := by simp [List.getD, hx1]
          refine D_val rfl rfl rfl (R_move rfl) ?_
          refine D_val rfl rfl rfl (R_move rfl) ?_
          refine D_val rfl rfl rfl (R_move rfl) ?_
          refine D_val rfl rfl rfl (R_indexN sl25 ty3 rfl rfl (by omega)) ?_
          refine D_val rfl rfl rfl (R_loadH ty3 rfl (hta) rfl (fun _ => rfl) rfl) ?_
          refine D_val rfl rfl rfl (R_index sl25 ty3 rfl rfl ⟨by omega, by omega⟩) ?_
          refine D_val rfl rfl rfl (R_loadH ty3 rfl (hdx) rfl (fun _ => rfl) rfl) ?_
          refine D_val rfl rfl rfl (R_move rfl) ?_
          refine D_val rfl rfl rfl (R_move rfl) ?_
          refine D_val rfl rfl rfl (R_indexN sl25 ty3 rfl rfl (by omega)) ?_
          refine D_val rfl rfl rfl (R_loadH ty3 rfl (hsx) rfl (fun _ => rfl) rfl) ?_
          refine D_val rfl rfl rfl (R_cmp rfl rfl rfl) ?_
          refine D_val rfl rfl rfl (R_pickF rfl rfl) ?_
          refine D_done ?_
          refine Q_then ?_
          refine K_if rfl (fun h46 => ?_) (fun h46 => ?_)
          ·
            refine K_seq ?_
            refine K_region ?_
            refine KV (R_assign rfl) rfl ?_
            refine K_nil ?_
            refine Q_then ?_
            refine K_ret ?_
            refine Q_block_ret ?_
            refine Q_then_ret ?_
            refine Q_then_ret ?_
            refine Q_block_ret ?_
            refine Q_then_ret ?_
            refine results_gen (rs := [.tmp 6]) (vs := [_]) rfl ⟨rfl, trivial⟩ ?_
            refine congrArg Value.bool (Eq.symm ?_)
            first
              | exact mapsM_iff.2 ⟨by omega, fun j h h2 => hyes j h h2 (by omega)⟩
              | (rw [Bool.eq_false_iff]; intro hm; obtain ⟨g1, g2⟩ := mapsM_iff.1 hm; first | omega | (have g3 := g2 k hk' hk2; first | omega | (rw [hgd] at g3; omega)))
          ·
            have hyes2 : ∀ j (h : j < ls.length) (h2 : j < src.length), j < k + 1 → (0 ≤ ls[j] ∧ ls[j] < dst.length) ∧ dst.getD ls[j].toNat 0 = src[j] := by
              intro j h h2 hj
              by_cases e : j = k
              · subst e; exact ⟨by omega, by rw [hgd]; omega⟩
              · exact hyes j h h2 (by omega)
            refine K_skip ?_
            refine Q_block ?_
            refine Q_then ?_
            refine K_region ?_
            refine KV (R_move rfl) rfl ?_
            refine KV (R_add rfl rfl (by omega)) rfl ?_
            refine KV (R_assign rfl) rfl ?_
            refine K_nil ?_
            refine Q_nextD (k + 1) ⟨hk', hyes2⟩ (by (try dsimp only); omega) ⟨rfl, trivial⟩ rfl rfl rfl
    ·
      have hk' : k = ls.length := by omega
      refine K_exit ?_
      refine Q_then_exit ?_
      refine Q_then_exit ?_
      refine Q_block_exit ?_
      refine Q_then ?_
      refine K_seq ?_
      refine K_region ?_
      refine KV (R_assign rfl) rfl ?_
      refine K_nil ?_
      refine Q_then ?_
      refine K_ret ?_
      refine results_gen (rs := [.tmp 6]) (vs := [_]) rfl ⟨rfl, trivial⟩ ?_
      refine congrArg Value.bool (Eq.symm ?_)
      first
        | exact mapsM_iff.2 ⟨by omega, fun j h h2 => hyes j h h2 (by omega)⟩
        | (rw [Bool.eq_false_iff]; intro hm; obtain ⟨g1, g2⟩ := mapsM_iff.1 hm; first | omega | (have g3 := g2 k hk' hk2; first | omega | (rw [hgd] at g3; omega)))

theorem relab_spec (ls src dst : List Int) (v1 v2 v3 : Value) (H : View) (h1 : SI H v1 ls) (h2 : SI H v2 src) (h3 : SI H v3 dst) (hb1 : ls.length ≤ 1099511627776) : Sat Tryz.prog F73 #[v1, v2, v3] H (fun r _ => r = .bool (mapsM ls src dst)) := by
  obtain ⟨a1, k1, rfl⟩ := h1.shape
  obtain ⟨a2, k2, rfl⟩ := h2.shape
  obtain ⟨a3, k3, rfl⟩ := h3.shape
  refine enterO (n := 41) (args := [.slice a1 ls.length k1, .slice a2 src.length k2, .slice a3 dst.length k3]) Tryz.func42 rfl rfl rfl fun w0 => ?_
  refine K_seq ?_
  refine K_region ?_
  refine KV (R_assign rfl) rfl ?_
  refine K_nil ?_
  refine Q_then ?_
  refine K_seq ?_
  refine K_seq ?_
  refine K_region ?_
  refine KV (R_move rfl) rfl ?_
  refine KV (R_len sl25 rfl) rfl ?_
  refine KV (R_move rfl) rfl ?_
  refine KV (R_len sl47 rfl) rfl ?_
  refine KV (R_cmp rfl rfl rfl) rfl ?_
  refine K_nil ?_
  refine Q_then ?_
  refine K_if rfl (fun h13 => ?_) (fun h13 => ?_)
  ·
    refine K_seq ?_
    refine K_region ?_
    refine KV (R_assign rfl) rfl ?_
    refine K_nil ?_
    refine Q_then ?_
    refine K_ret ?_
    refine Q_then_ret ?_
    refine results_gen (rs := [.tmp 6]) (vs := [_]) rfl ⟨rfl, trivial⟩ ?_
    refine congrArg Value.bool (Eq.symm ?_)
    first
      | exact mapsM_iff.2 ⟨by omega, fun j h h2 => hyes j h h2 (by omega)⟩
      | (rw [Bool.eq_false_iff]; intro hm; obtain ⟨g1, g2⟩ := mapsM_iff.1 hm; first | omega | (have g3 := g2 k hk' hk2; first | omega | (rw [hgd] at g3; omega)))
  ·
    refine K_skip ?_
    refine Q_then ?_
    refine K_seq ?_
    refine K_seq ?_
    refine K_region ?_
    refine KV (R_move rfl) rfl ?_
    refine KV (R_len sl25 rfl) rfl ?_
    refine KV (R_move rfl) rfl ?_
    refine K_nil ?_
    refine Q_then ?_
    refine K_block ?_
    refine K_loopD (G := Nat) [6, 7, 8, 16, 17, 18, 19, 20, 21, 22, 23, 24, 25, 26, 27, 28, 29, 30, 31, 32, 33, 34, 35, 36, 37, 38, 39, 40] (fun g => [(16, .int .i64 (g : Int))]) (fun hl g => hl) (fun g => H) (fun g => (g ≤ ls.length) ∧ (∀ j (h : j < ls.length) (h2 : j < src.length), j < g → (0 ≤ ls[j] ∧ ls[j] < dst.length) ∧ dst.getD ls[j].toNat 0 = src[j])) (fun g => ls.length - g) 0 ⟨Nat.zero_le _, fun j _ _ h => by simp at h⟩ ⟨rfl, trivial⟩ (by simp only [args0, Nat.reduceAdd, del, memN, beqN, Nat.reduceBEq, cond_true, cond_false]; rfl) rfl rfl ?_
    rintro k ⟨hk, hyes⟩
    try dsimp only at hk
    try dsimp only at hyes
    dsimp only [List.set, List.cons_append, List.nil_append]
    refine K_seq ?_
    refine K_region ?_
    refine KV (R_cmp rfl rfl rfl) rfl ?_
    refine K_nil ?_
    refine Q_then ?_
    refine K_seq ?_
    refine K_if rfl (fun h17 => ?_) (fun h17 => ?_)
    ·
      have hk' : k < ls.length := by omega
      have hk2 : k < src.length := by omega
      obtain ⟨tb, to_, hte, hta⟩ := h1.get hk'
      cases hte
      obtain ⟨sb, so, hse, hsx⟩ := h2.get hk2
      cases hse
      refine K_skip ?_
      refine Q_then ?_
      refine K_seq ?_
      refine K_block ?_
      refine K_seq ?_
      refine K_region ?_
      refine KV (R_move rfl) rfl ?_
      refine KV (R_indexN sl25 ty3 rfl rfl (by omega)) rfl ?_
      refine KV (R_loadH ty3 rfl (hta) rfl (fun _ => rfl) rfl) rfl ?_
      refine KV (R_assign rfl) rfl ?_
      refine KV (R_assign rfl) rfl ?_
      refine K_nil ?_
      refine Q_then ?_
      refine K_seq ?_
      refine K_regionD (fin := false) (R := [0, 1, 2, 3, 4, 5, 6, 7, 8, 9, 10, 11, 12, 13, 14, 15, 16, 17, 18]) (by kernel_rfl) mixed (List.nil_sublist _) ?_
      refine D_val rfl rfl rfl (R_move rfl) ?_
      refine D_val rfl rfl rfl (R_cmp rfl rfl rfl) ?_
      refine D_val rfl rfl rfl (R_move rfl) ?_
      refine D_split ?_ ?_
      ·
        intro h23
        refine D_skip rfl rfl ?_
        refine D_skip rfl rfl ?_
        refine D_skip rfl rfl ?_
        refine D_skip rfl rfl ?_
        refine D_val rfl rfl rfl (R_pickT rfl rfl) ?_
        refine D_val rfl rfl rfl (R_move rfl) ?_
        refine D_skip rfl rfl ?_
        refine D_skip rfl rfl ?_
        refine D_skip rfl rfl ?_
        refine D_skip rfl rfl ?_
        refine D_skip rfl rfl ?_
        refine D_skip rfl rfl ?_
        refine D_skip rfl rfl ?_
        refine D_skip rfl rfl ?_
        refine D_skip rfl rfl ?_
        refine D_val rfl rfl rfl (R_pickT rfl rfl) ?_
        refine D_done ?_
        refine Q_then ?_
        refine K_ifT rfl ?_
        refine K_seq ?_
        refine K_region ?_
        refine KV (R_assign rfl) rfl ?_
        refine K_nil ?_
        refine Q_then ?_
        refine K_ret ?_
        refine Q_block_ret ?_
        refine Q_then_ret ?_
        refine Q_then_ret ?_
        refine Q_block_ret ?_
        refine Q_then_ret ?_
        refine results_gen (rs := [.tmp 6]) (vs := [_]) rfl ⟨rfl, trivial⟩ ?_
        refine congrArg Value.bool (Eq.symm ?_)
        first
          | exact mapsM_iff.2 ⟨by omega, fun j h h2 => hyes j h h2 (by omega)⟩
          | (rw [Bool.eq_false_iff]; intro hm; obtain ⟨g1, g2⟩ := mapsM_iff.1 hm; first | omega | (have g3 := g2 k hk' hk2; first | omega | (rw [hgd] at g3; omega)))
      ·
        intro h23
        refine D_val rfl rfl rfl (R_move rfl) ?_
        refine D_val rfl rfl rfl (R_move rfl) ?_
        refine D_val rfl rfl rfl (R_len sl47 rfl) ?_
        refine D_val rfl rfl rfl (R_cmp rfl rfl rfl) ?_
        refine D_val rfl rfl rfl (R_pickF rfl rfl) ?_
        refine D_val rfl rfl rfl (R_move rfl) ?_
        refine D_split ?_ ?_
        ·
          intro h29
          refine D_skip rfl rfl ?_
          refine D_skip rfl rfl ?_
          refine D_skip rfl rfl ?_
          refine D_skip rfl rfl ?_
          refine D_skip rfl rfl ?_
          refine D_skip rfl rfl ?_
          refine D_skip rfl rfl ?_
          refine D_skip rfl rfl ?_
          refine D_skip rfl rfl ?_
          refine D_val rfl rfl rfl (R_pickT rfl rfl) ?_
          refine D_done ?_
          refine Q_then ?_
          refine K_ifT rfl ?_
          refine K_seq ?_
          refine K_region ?_
          refine KV (R_assign rfl) rfl ?_
          refine K_nil ?_
          refine Q_then ?_
          refine K_ret ?_
          refine Q_block_ret ?_
          refine Q_then_ret ?_
          refine Q_then_ret ?_
          refine Q_block_ret ?_
          refine Q_then_ret ?_
          refine results_gen (rs := [.tmp 6]) (vs := [_]) rfl ⟨rfl, trivial⟩ ?_
          refine congrArg Value.bool (Eq.symm ?_)
          first
            | exact mapsM_iff.2 ⟨by omega, fun j h h2 => hyes j h h2 (by omega)⟩
            | (rw [Bool.eq_false_iff]; intro hm; obtain ⟨g1, g2⟩ := mapsM_iff.1 hm; first | omega | (have g3 := g2 k hk' hk2; first | omega | (rw [hgd] at g3; omega)))
        ·
          intro h29
          have hx1 : ls[k].toNat < dst.length := by omega
          obtain ⟨db, do_, hde, hdx⟩ := h3.get hx1
          cases hde
          have hgd : dst.getD ls[k].toNat 0 = dst[ls[k].toNat] := by simp [List.getD, hx1]
          refine D_val rfl rfl rfl (R_move rfl) ?_
          refine D_val rfl rfl rfl (R_move rfl) ?_
          refine D_val rfl rfl rfl (R_index sl47 ty3 rfl rfl ⟨by omega, by omega⟩) ?_
          refine D_val rfl rfl rfl (R_loadH ty3 rfl (hdx) rfl (fun _ => rfl) rfl) ?_
          refine D_val rfl rfl rfl (R_move rfl) ?_
          refine D_val rfl rfl rfl (R_move rfl) ?_
          refine D_val rfl rfl rfl (R_indexN sl47 ty3 rfl rfl (by omega)) ?_
          refine D_val rfl rfl rfl (R_loadH ty3 rfl (hsx) rfl (fun _ => rfl) rfl) ?_
          refine D_val rfl rfl rfl (R_cmp rfl rfl rfl) ?_
          refine D_val rfl rfl rfl (R_pickF rfl rfl) ?_
          refine D_done ?_
          refine Q_then ?_
          refine K_if rfl (fun h39 => ?_) (fun h39 => ?_)
          ·
            refine K_seq ?_
            refine K_region ?_
            refine KV (R_assign rfl) rfl ?_
            refine K_nil ?_
            refine Q_then ?_
            refine K_ret ?_
            refine Q_block_ret ?_
            refine Q_then_ret ?_
            refine Q_then_ret ?_
            refine Q_block_ret ?_
            refine Q_then_ret ?_
            refine results_gen (rs := [.tmp 6]) (vs := [_]) rfl ⟨rfl, trivial⟩ ?_
            refine congrArg Value.bool (Eq.symm ?_)
            first
              | exact mapsM_iff.2 ⟨by omega, fun j h h2 => hyes j h h2 (by omega)⟩
              | (rw [Bool.eq_false_iff]; intro hm; obtain ⟨g1, g2⟩ := mapsM_iff.1 hm; first | omega | (have g3 := g2 k hk' hk2; first | omega | (rw [hgd] at g3; omega)))
          ·
            have hyes2 : ∀ j (h : j < ls.length) (h2 : j < src.length), j < k + 1 → (0 ≤ ls[j] ∧ ls[j] < dst.length) ∧ dst.getD ls[j].toNat 0 = src[j] := by
              intro j h h2 hj
              by_cases e : j = k
              · subst e; exact ⟨by omega, by rw [hgd]; omega⟩
              · exact hyes j h h2 (by omega)
            refine K_skip ?_
            refine Q_block ?_
            refine Q_then ?_
            refine K_region ?_
            refine KV (R_add rfl rfl (by omega)) rfl ?_
            refine KV (R_move rfl) rfl ?_
            refine K_nil ?_
            refine Q_nextD (k + 1) ⟨hk', hyes2⟩ (by (try dsimp only); omega) ⟨rfl, trivial⟩ rfl rfl rfl
    ·
      have hk' : k = ls.length := by omega
      refine K_exit ?_
      refine Q_then_exit ?_
      refine Q_then_exit ?_
      refine Q_block_exit ?_
      refine Q_then ?_
      refine K_seq ?_
      refine K_region ?_
      refine KV (R_assign rfl) rfl ?_
      refine K_nil ?_
      refine Q_then ?_
      refine K_ret ?_
      refine results_gen (rs := [.tmp 6]) (vs := [_]) rfl ⟨rfl, trivial⟩ ?_
      refine congrArg Value.bool (Eq.symm ?_)
      first
        | exact mapsM_iff.2 ⟨by omega, fun j h h2 => hyes j h h2 (by omega)⟩
        | (rw [Bool.eq_false_iff]; intro hm; obtain ⟨g1, g2⟩ := mapsM_iff.1 hm; first | omega | (have g3 := g2 k hk' hk2; first | omega | (rw [hgd] at g3; omega)))

theorem cloneb_spec (xs : List Bool) (v : Value) (H : View) (hv : SB H v xs) (hl : xs.length ≤ 1099511627776) : Sat Tryz.prog F74 #[v] H (fun w H' => SB H' w xs) := by
  obtain ⟨a, cp, rfl⟩ := hv.shape
  refine enterO (n := 8) (args := [.slice a xs.length cp]) Tryz.func44 rfl rfl rfl fun w0 => ?_
  refine K_seq ?_
  refine K_region ?_
  refine KV (R_assign rfl) rfl ?_
  refine K_nil ?_
  refine Q_then ?_
  refine K_seq ?_
  refine K_seq ?_
  refine K_region ?_
  refine KV (R_move rfl) rfl ?_
  refine KV (R_sliceNil sl52 rfl rfl) rfl ?_
  refine K_nil ?_
  refine Q_then ?_
  cases a with
  | none =>
    obtain ⟨a2, c2, h2, h3⟩ := hv
    cases h2
    have hx0 : xs = [] := by
      rcases h3 with ⟨h3, _⟩ | ⟨b, off, h3, _⟩
      · exact List.eq_nil_of_length_eq_zero h3
      · cases h3
    subst hx0
    refine K_ifT rfl ?_
    refine K_seq ?_
    refine K_region ?_
    refine KV (R_assign rfl) rfl ?_
    refine K_nil ?_
    refine Q_then ?_
    refine K_ret ?_
    refine Q_then_ret ?_
    refine results_gen (rs := [.tmp 2]) (vs := [_]) rfl ⟨rfl, trivial⟩ ?_
    exact ⟨none, 0, rfl, .inl ⟨rfl, rfl⟩⟩
  | some aa =>
    refine K_ifF rfl ?_
    refine K_skip ?_
    refine Q_then ?_
    refine K_seq ?_
    refine K_region ?_
    refine KA (A_buildSlice (vs := []) sl52 ty4 z4 rfl rfl (by simp) (by simp) rfl (by decide)) rfl fun b5 => ?_
    refine KV (R_move rfl) rfl ?_
    refine K_append0 0 ap52 sl52 rfl rfl rfl hv (by simp [bools]) (bools_one _) ⟨by omega, by omega⟩ rfl fun a7 k7 => ?_
    refine KV (R_assign rfl) rfl ?_
    refine K_nil ?_
    refine Q_then ?_
    refine K_ret ?_
    refine KQ_pubrow rfl fun Hp hp hrow => ?_
    refine results_gen (rs := [.tmp 2]) (vs := [_]) rfl ⟨rfl, trivial⟩ ?_
    exact hrow.sl

theorem inv_spec (d : Dt) (ls rk : List Int) (v1 v2 v3 w1 w2 : Value) (H : View) (hd : RepDt H d v1 v2 v3) (hb : d.ranks.length ≤ 1048576 ∧ d.acc.length ≤ 1048576 ∧ d.to.length ≤ 1048576 ∧ ∀ x ∈ d.to, x.length ≤ 1048576) (h1 : SI H w1 ls) (h2 : SI H w2 rk) (hb1 : ls.length ≤ 1048576) (hb2 : rk.length ≤ 1048576) :
    Sat Tryz.prog F35 #[.agg #[v1, v2, v3], w1, w2] H (fun r H' => ∃ u1 u2 u3, r = .tuple #[.agg #[u1, u2, u3], .int .i64 (invM d ls rk).1] ∧ RepDt H' (invM d ls rk).2 u1 u2 u3) := by
  obtain ⟨a1, k1, rfl⟩ := h1.shape
  obtain ⟨a2, k2, rfl⟩ := h2.shape
  obtain ⟨ua1, uc1x, rfl⟩ := hd.r.shape
  obtain ⟨ua2, uc2x, rfl⟩ := hd.a.shape
  obtain ⟨ua3, uc3x, rfl⟩ := hd.t.shape
  refine enterO (n := 57) (args := [.agg #[.slice ua1 d.ranks.length uc1x, .slice ua2 d.acc.length uc2x, .slice ua3 d.to.length uc3x], .slice a1 ls.length k1, .slice a2 rk.length k2]) Tryz.func15 rfl rfl rfl fun w0 => ?_
  refine K_seq ?_
  refine K_region ?_
  refine KA (A_box rfl) rfl fun b3 => ?_
  refine KA (A_alloc z54) rfl fun b6 => ?_
  refine KV (R_assign rfl) rfl ?_
  refine K_nil ?_
  refine Q_then ?_
  refine K_seq ?_
  refine K_seq ?_
  refine K_region ?_
  refine KV (R_loadO ty54 1 rfl rfl rfl rfl (fun e => by cases e) rfl) rfl ?_
  refine K_call c63 rfl rfl (dcheck_spec d _ _ _ H hd hb) ?_
  rintro _ V1 hv1 rfl
  refine KV (R_assign rfl) rfl ?_
  refine K_nil ?_
  refine Q_then ?_
  refine K_seq ?_
  refine K_region ?_
  refine KV (R_move rfl) rfl ?_
  refine KV (R_cmp rfl rfl rfl) rfl ?_
  refine K_nil ?_
  refine Q_then ?_
  refine K_if rfl (fun h16 => ?_) (fun h16 => ?_)
  ·
    refine K_seq ?_
    refine K_region ?_
    refine KV (R_build z54 pl54 rfl rfl) rfl ?_
    refine KV (R_move rfl) rfl ?_
    refine K_store ty54 0 rfl rfl rfl rfl rfl rfl ?_
    refine KV (R_assign rfl) rfl ?_
    refine K_nil ?_
    refine Q_then ?_
    refine K_ret ?_
    refine Q_then_ret ?_
    refine results_gen (rs := [.cell 6 37, .tmp 7]) (vs := [_, _]) rfl ⟨⟨_, _, _, _, _, _, 0, rfl, rfl, ty54, (fun e => by cases e), rfl, rfl⟩, ⟨rfl, trivial⟩⟩ ?_
    have e : invM d ls rk = (dtErr d, ⟨[], [], []⟩) := by unfold invM; rw [if_pos h16]
    rw [e]
    exact ⟨_, _, _, rfl, RepDt.nil _⟩
  ·
    refine K_skip ?_
    refine Q_then ?_
    refine K_seq ?_
    refine K_seq ?_
    refine K_region ?_
    refine KV (R_move rfl) rfl ?_
    refine K_call c72 rfl rfl (acheck_spec rk _ V1 (h2.mono hv1) (by omega)) ?_
    rintro _ V2 hv2 rfl
    refine KV (R_assign rfl) rfl ?_
    refine K_nil ?_
    refine Q_then ?_
    refine K_seq ?_
    refine K_region ?_
    refine KV (R_move rfl) rfl ?_
    refine KV (R_cmp rfl rfl rfl) rfl ?_
    refine K_nil ?_
    refine Q_then ?_
    refine K_if rfl (fun h22 => ?_) (fun h22 => ?_)
    ·
      refine K_seq ?_
      refine K_region ?_
      refine KV (R_build z54 pl54 rfl rfl) rfl ?_
      refine KV (R_move rfl) rfl ?_
      refine K_store ty54 0 rfl rfl rfl rfl rfl rfl ?_
      refine KV (R_assign rfl) rfl ?_
      refine K_nil ?_
      refine Q_then ?_
      refine K_ret ?_
      refine Q_then_ret ?_
      refine results_gen (rs := [.cell 6 37, .tmp 7]) (vs := [_, _]) rfl ⟨⟨_, _, _, _, _, _, 0, rfl, rfl, ty54, (fun e => by cases e), rfl, rfl⟩, ⟨rfl, trivial⟩⟩ ?_
      have e : invM d ls rk = (ranksErr rk, ⟨[], [], []⟩) := by unfold invM; rw [if_neg h16, if_pos h22]
      rw [e]
      exact ⟨_, _, _, rfl, RepDt.nil _⟩
    ·
      refine K_skip ?_
      refine Q_then ?_
      refine K_seq ?_
      refine K_seq ?_
      refine K_region ?_
      refine KV (R_move rfl) rfl ?_
      refine KV (R_move rfl) rfl ?_
      refine KV (R_fieldAddr 0 fd54_0 rfl) rfl ?_
      refine KV (R_loadO ty47 1 rfl rfl rfl rfl (fun _ => rfl) rfl) rfl ?_
      refine K_call c73 rfl rfl (relab_spec ls rk d.ranks _ _ _ V2 (h1.mono (hv1.trans hv2)) (h2.mono (hv1.trans hv2)) ((hd.mono (hv1.trans hv2)).r) (by omega)) ?_
      rintro _ V3 hv3 rfl
      refine KV (R_not rfl) rfl ?_
      refine K_nil ?_
      refine Q_then ?_
      refine K_ifB rfl (fun h30 => ?_) (fun h30 => ?_)
      ·
        have hmf : mapsM ls rk d.ranks = false := by simpa using h30
        refine K_seq ?_
        refine K_region ?_
        refine KV (R_build z54 pl54 rfl rfl) rfl ?_
        refine K_store ty54 0 rfl rfl rfl rfl rfl rfl ?_
        refine KV (R_assign rfl) rfl ?_
        refine K_nil ?_
        refine Q_then ?_
        refine K_ret ?_
        refine Q_then_ret ?_
        refine results_gen (rs := [.cell 6 37, .tmp 7]) (vs := [_, _]) rfl ⟨⟨_, _, _, _, _, _, 0, rfl, rfl, ty54, (fun e => by cases e), rfl, rfl⟩, ⟨rfl, trivial⟩⟩ ?_
        have e : invM d ls rk = (3, ⟨[], [], []⟩) := by unfold invM; rw [if_neg h16, if_neg h22, if_pos hmf]
        rw [e]
        exact ⟨_, _, _, rfl, RepDt.nil _⟩
      ·
        have hmt : mapsM ls rk d.ranks = true := by simpa using h30
        obtain ⟨hml, hmx⟩ := mapsM_iff.1 hmt
        have hdok := DtOk.of (Decidable.not_not.1 h16)
        refine K_skip ?_
        refine Q_then ?_
        refine K_seq ?_
        refine K_regionD (fin := true) (R := [0, 2, 3, 1, 4, 5, 6, 7]) (by kernel_rfl) mixed (.cons_cons _ (.cons_cons _ (List.nil_sublist _))) ?_
        refine D_val rfl rfl rfl (R_move rfl) ?_
        refine D_val rfl rfl rfl (R_fieldAddr 1 fd54_1 rfl) ?_
        refine D_val rfl rfl rfl (R_loadO ty52 1 rfl rfl rfl rfl (fun _ => rfl) rfl) ?_
        refine D_call rfl rfl c45 rfl ⟨⟨0, rfl⟩, ⟨1, rfl⟩, trivial⟩ (clone47_spec rk _ V3 (h2.mono (hv1.trans (hv2.trans hv3))) (by omega)) ?_
        rintro cr V4 hv4 hcr
        obtain ⟨ca, cc, rfl⟩ := hcr.shape
        refine D_call rfl rfl c74 rfl ⟨⟨0, rfl⟩, ⟨1, rfl⟩, trivial⟩ (cloneb_spec d.acc _ V4 ((hd.mono (hv1.trans (hv2.trans (hv3.trans hv4)))).a) (Nat.le_trans hb.2.1 (by decide))) ?_
        rintro cb V5 hv5 hcb
        obtain ⟨cba, cbc, rfl⟩ := hcb.shape
        have hd5 := hd.mono (hv1.trans (hv2.trans (hv3.trans (hv4.trans hv5))))
        have h15 := h1.mono (hv1.trans (hv2.trans (hv3.trans (hv4.trans hv5))))
        refine D_val rfl rfl rfl (R_build z54 pl54 rfl rfl) ?_
        refine D_alloc rfl rfl rfl (A_alloc z54) fun b10 => ?_
        refine D_lastStore ty54 0 rfl rfl rfl rfl rfl rfl rfl rfl ?_
        refine Q_then ?_
        refine K_seq ?_
        refine K_seq ?_
        refine K_region ?_
        refine KV (R_move rfl) rfl ?_
        refine KV (R_len sl25 rfl) rfl ?_
        refine KV (R_move rfl) rfl ?_
        refine K_nil ?_
        refine Q_then ?_
        refine K_block ?_
        refine K_nilrow T25 1 ?_
        refine K_loopD (G := Nat × View × Value × List Value) [12, 40, 41, 42, 43, 44, 45, 46, 47, 48, 49, 50, 51, 52, 53, 54, 55] (fun g => [(40, .int .i64 (g.1 : Int))]) (fun hl g => ((hl.set 0 (row g.2.2.1 T25 1 g.1 g.2.2.2)).set 1 (blk b10 (.cells #[.slice ca rk.length cc, .slice cba d.acc.length cbc, g.2.2.1] T54 (0, 0))))) (fun g => g.2.1) (fun g => (g.1 ≤ ls.length) ∧ (VLe V5 g.2.1) ∧ (RepL (RSI g.2.1) 1 ((ls.take g.1).map fun s => d.to.getD s.toNat []) g.2.2.2) ∧ (∃ ad cp, g.2.2.1 = .slice ad g.1 cp)) (fun g => ls.length - g.1) (0, V5, nilS, []) ⟨Nat.zero_le _, VLe.refl _, .nil, none, 0, rfl⟩ ⟨rfl, trivial⟩ (by simp only [args0, Nat.reduceAdd, del, memN, beqN, Nat.reduceBEq, cond_true, cond_false]; rfl) rfl rfl ?_
        rintro ⟨k, V, w, cells⟩ ⟨hk, hV, hC, hw⟩
        dsimp only at hk hV hC hw
        dsimp only [List.set, List.cons_append, List.nil_append]
        obtain ⟨wa, wcp, rfl⟩ := hw
        refine K_seq ?_
        refine K_region ?_
        refine KV (R_cmp rfl rfl rfl) rfl ?_
        refine K_nil ?_
        refine Q_then ?_
        refine K_seq ?_
        refine K_if rfl (fun h41 => ?_) (fun h41 => ?_)
        ·
          have hk' : k < ls.length := by omega
          obtain ⟨tb, to_, hte, hta⟩ := h15.get hk'
          cases hte
          have hmk := (hmx k hk' (by omega)).1
          have htl := hdok.tl
          have hx0 : 0 ≤ ls[k] := hmk.1
          have hx1 : ls[k] < (d.to.length : Int) := by omega
          have hxl : ls[k].toNat < d.to.length := by omega
          obtain ⟨db, do_, ea, ecp, hde, htx, hes⟩ := hd5.t.get hxl
          cases hde
          have hgd : d.to.getD ls[k].toNat [] = d.to[ls[k].toNat] := by simp [List.getD, hxl]
          refine K_skip ?_
          refine Q_then ?_
          refine K_seq ?_
          refine K_block ?_
          refine K_seq ?_
          refine K_region ?_
          refine KV (R_indexN sl25 ty3 rfl rfl (by omega)) rfl ?_
          refine KV (R_loadH ty3 rfl (hta.mono hV) rfl (fun _ => rfl) rfl) rfl ?_
          refine KV (R_assign rfl) rfl ?_
          refine K_nil ?_
          refine Q_then ?_
          refine K_regionD (fin := true) (R := [0, 1, 2, 3, 4, 5, 6, 7, 8, 9, 10, 11]) (by kernel_rfl) mixed (.cons _ (.cons_cons _ (.cons_cons _ (.cons_cons _ (List.nil_sublist _))))) ?_
          refine D_val rfl rfl rfl (R_fieldAddr 2 fd54_2 rfl) ?_
          refine D_val rfl rfl rfl (R_loadO ty44 0 rfl rfl rfl rfl (fun _ => rfl) rfl) ?_
          refine D_val rfl rfl rfl (R_fieldAddr 2 fd54_2 rfl) ?_
          refine D_val rfl rfl rfl (R_loadO ty44 2 rfl rfl rfl rfl (fun _ => rfl) rfl) ?_
          refine D_val rfl rfl rfl (R_move rfl) ?_
          refine D_val rfl rfl rfl (R_index sl44 ty25 rfl rfl ⟨hx0, hx1⟩) ?_
          refine D_val rfl rfl rfl (R_loadH ty25 rfl (htx.mono hV) rfl (fun _ => rfl) rfl) ?_
          refine D_call rfl rfl c65 rfl ⟨⟨1, rfl⟩, ⟨2, rfl⟩, ⟨3, rfl⟩, trivial⟩ (clone25_spec d.to[ls[k].toNat] _ V (hes.mono hV) (Nat.le_trans (hb.2.2.2 _ (List.getElem_mem hxl)) (by decide))) ?_
          rintro ce U hU hce
          obtain ⟨cea, cec, rfl⟩ := hce.shape
          refine D_alloc rfl rfl rfl (A_buildSlice (vs := [.slice cea d.to[ls[k].toNat].length cec]) sl44 ty25 z25 rfl rfl (by simp [Value.cells]) (by simp) rfl (by decide)) fun b52 => ?_
          refine D_append1 0 ap44 rfl rfl rfl rfl rfl rfl ⟨⟨0, rfl⟩, ⟨1, rfl⟩, ⟨2, rfl⟩, trivial⟩ rfl rfl ⟨by omega, by omega⟩ fun a53 k53 hn53 => ?_
          refine D_val rfl rfl rfl (R_fieldAddr 2 fd54_2 rfl) ?_
          refine D_lastStore ty44 1 rfl rfl rfl rfl rfl rfl rfl rfl ?_
          refine Q_block ?_
          refine Q_then ?_
          refine K_region ?_
          refine KV (R_add rfl rfl (by omega)) rfl ?_
          refine KV (R_move rfl) rfl ?_
          refine K_nil ?_
          refine Q_nextD (k + 1, U, .slice a53 (k + 1) k53, cells ++ [.slice cea d.to[ls[k].toNat].length cec]) ⟨hk', hV.trans hU, (hC.impSI hU).snocT hk' ⟨_, rfl, by rw [hgd]; exact hce⟩ rfl, _, _, rfl⟩ (by (try dsimp only); omega) ⟨rfl, trivial⟩ rfl rfl rfl
        ·
          have hk' : k = ls.length := by omega
          subst hk'
          refine K_exit ?_
          refine Q_then_exit ?_
          refine Q_then_exit ?_
          refine Q_block_exit ?_
          refine Q_then ?_
          refine K_seq ?_
          refine K_region ?_
          refine KV (R_loadO ty54 1 rfl rfl rfl rfl (fun e => by cases e) rfl) rfl ?_
          refine K_store ty54 2 rfl rfl rfl rfl rfl rfl ?_
          refine KV (R_assign rfl) rfl ?_
          refine K_nil ?_
          refine Q_then ?_
          refine K_ret ?_
          refine KQ_pubrow rfl fun Hp hp hrow => ?_
          refine results_gen (rs := [.cell 6 37, .tmp 7]) (vs := [_, _]) rfl ⟨⟨_, _, _, _, _, _, 1, rfl, rfl, ty54, (fun e => by cases e), rfl, rfl⟩, ⟨rfl, trivial⟩⟩ ?_
          have e : invM d ls rk = (0, invD d ls rk) := by unfold invM; rw [if_neg h16, if_neg h22, if_neg (by rw [hmt]; simp)]
          rw [e]
          rw [List.take_length] at hC
          refine ⟨_, _, _, rfl, hcr.mono (hv5.trans (hV.trans hp)), SB.mono hcb (hV.trans hp), cells, ?_, hC.impSI hp⟩
          have := hrow.sl
          simpa [invD] using this

theorem at_spec (d : Dt) (hok : DtOk d) (s : Int) (xs : List Int) (v1 v2 v3 w : Value) (H : View) (hd : RepDt H d v1 v2 v3) (hw : SI H w xs) (hs : 0 ≤ s ∧ s < d.ranks.length) (hl : (xs.length : Int) = d.ranks.getD s.toNat 0) (hx : ∀ x ∈ xs, 0 ≤ x ∧ x < (d.acc.length : Int)) :
    Sat Tryz.prog F91 #[.agg #[v1, v2, v3], .int .i64 s, w] H (fun r _ => r = .int .i64 (atM d s xs)) := by
  obtain ⟨wa, wcp, rfl⟩ := hw.shape
  obtain ⟨g1, g2, g3, g4⟩ := hok.at_ok hs hl hx
  have hn := hok.n
  have hrkb := (ranksErr_ok hok.rk).2 s.toNat (by omega)
  have hxl : xs.length ≤ 2 := by
    have : d.ranks.getD s.toNat 0 = d.ranks[s.toNat] := by simp [List.getD, show s.toNat < d.ranks.length by omega]
    omega
  obtain ⟨ua1, uc1x, rfl⟩ := hd.r.shape
  obtain ⟨ua2, uc2x, rfl⟩ := hd.a.shape
  obtain ⟨ua3, uc3x, rfl⟩ := hd.t.shape
  refine enterO (n := 32) (args := [.agg #[.slice ua1 d.ranks.length uc1x, .slice ua2 d.acc.length uc2x, .slice ua3 d.to.length uc3x], .int .i64 s, .slice wa xs.length wcp]) Tryz.func85 rfl rfl rfl fun w0 => ?_
  refine K_seq ?_
  refine K_region ?_
  refine KA (A_box rfl) rfl fun b3 => ?_
  refine KV (R_assign rfl) rfl ?_
  refine K_nil ?_
  refine Q_then ?_
  refine K_seq ?_
  refine K_region ?_
  refine KV (R_assign rfl) rfl ?_
  refine K_nil ?_
  refine Q_then ?_
  refine K_seq ?_
  refine K_seq ?_
  refine K_region ?_
  refine KV (R_move rfl) rfl ?_
  refine KV (R_len sl25 rfl) rfl ?_
  refine KV (R_move rfl) rfl ?_
  refine K_nil ?_
  refine Q_then ?_
  refine K_block ?_
  refine K_loopD (G := Nat) [7, 9, 12, 13, 14, 15, 16, 17, 18, 19, 20, 21, 22, 23] (fun g => [(12, .int .i64 (g : Int)), (7, .int .i64 (placeM d.acc.length (xs.take g)))]) (fun hl g => hl) (fun g => H) (fun g => (g ≤ xs.length)) (fun g => xs.length - g) 0 (Nat.zero_le _) ⟨rfl, rfl, trivial⟩ (by simp only [args0, Nat.reduceAdd, del, memN, beqN, Nat.reduceBEq, cond_true, cond_false]; rfl) rfl rfl ?_
  rintro k hk
  try dsimp only at hk
  dsimp only [List.set, List.cons_append, List.nil_append]
  refine K_seq ?_
  refine K_region ?_
  refine KV (R_cmp rfl rfl rfl) rfl ?_
  refine K_nil ?_
  refine Q_then ?_
  refine K_seq ?_
  refine K_if rfl (fun h13 => ?_) (fun h13 => ?_)
  ·
    have hk' : k < xs.length := by omega
    obtain ⟨tb, to_, hte, hta⟩ := hw.get hk'
    cases hte
    have hpl := placeM_lt hx k hk
    have hpk : d.acc.length ^ k ≤ 262144 := pow_le2 hn.2 (by omega)
    have hxk := hx _ (List.getElem_mem hk')
    have hm0 : 0 ≤ placeM d.acc.length (xs.take k) * (d.acc.length : Int) := Int.mul_nonneg hpl.1 (by omega)
    have hm1 : placeM d.acc.length (xs.take k) * (d.acc.length : Int) ≤ 262144 * (d.acc.length : Int) := Int.mul_le_mul_of_nonneg_right (by omega) (by omega)
    refine K_skip ?_
    refine Q_then ?_
    refine K_seq ?_
    refine K_block ?_
    refine K_seq ?_
    refine K_region ?_
    refine KV (R_indexN sl25 ty3 rfl rfl (by omega)) rfl ?_
    refine KV (R_loadH ty3 rfl (hta) rfl (fun _ => rfl) rfl) rfl ?_
    refine KV (R_assign rfl) rfl ?_
    refine K_nil ?_
    refine Q_then ?_
    refine K_region ?_
    refine KV (R_move rfl) rfl ?_
    refine KV (R_fieldAddr 1 fd54_1 rfl) rfl ?_
    refine KV (R_loadO ty52 0 rfl rfl rfl rfl (fun _ => rfl) rfl) rfl ?_
    refine KV (R_len sl52 rfl) rfl ?_
    refine KV (R_mul rfl rfl (by omega)) rfl ?_
    refine KV (R_move rfl) rfl ?_
    refine KV (R_add rfl rfl (by omega)) rfl ?_
    refine KV (R_assign rfl) rfl ?_
    refine K_nil ?_
    refine Q_block ?_
    refine Q_then ?_
    refine K_region ?_
    refine KV (R_add rfl rfl (by omega)) rfl ?_
    refine KV (R_move rfl) rfl ?_
    refine K_nil ?_
    refine Q_nextD (k + 1) hk' (by (try dsimp only); omega) ⟨rfl, congrArg (fun z => some (Value.int .i64 z)) (placeM_take hk').symm, trivial⟩ rfl rfl rfl
  ·
    have hk' : k = xs.length := by omega
    subst hk'
    rw [List.take_length]
    obtain ⟨db, do_, ea, ecp, hde, htx, hes⟩ := hd.t.get g1
    cases hde
    have hgs : d.to.getD s.toNat [] = d.to[s.toNat] := by simp [List.getD, g1]
    rw [hgs] at g2
    obtain ⟨eb, eo, hee, hty⟩ := hes.get g2.2
    cases hee
    have hg2 : atM d s xs = d.to[s.toNat][(placeM d.acc.length xs).toNat] := by
      unfold atM
      rw [hgs]
      simp [List.getD, g2.2]
    refine K_exit ?_
    refine Q_then_exit ?_
    refine Q_then_exit ?_
    refine Q_block_exit ?_
    refine Q_then ?_
    refine K_seq ?_
    refine K_region ?_
    refine KV (R_fieldAddr 2 fd54_2 rfl) rfl ?_
    refine KV (R_loadO ty44 0 rfl rfl rfl rfl (fun _ => rfl) rfl) rfl ?_
    refine KV (R_move rfl) rfl ?_
    refine KV (R_index sl44 ty25 rfl rfl ⟨by omega, by omega⟩) rfl ?_
    refine KV (R_loadH ty25 rfl (htx) rfl (fun _ => rfl) rfl) rfl ?_
    refine KV (R_move rfl) rfl ?_
    refine KV (R_index sl25 ty3 rfl rfl ⟨g2.1, by omega⟩) rfl ?_
    refine KV (R_loadH ty3 rfl (hty) rfl (fun _ => rfl) rfl) rfl ?_
    refine KV (R_assign rfl) rfl ?_
    refine K_nil ?_
    refine Q_then ?_
    refine K_ret ?_
    refine results_gen (rs := [.tmp 6]) (vs := [_]) rfl ⟨rfl, trivial⟩ ?_
    rw [hg2]
    rfl

theorem run_spec (d : Dt) (hok : DtOk d) (v1 v2 v3 : Value) : ∀ m t H cs, t.size ≤ m → m ≤ 1099511627776 → RepT H t cs → RepDt H d v1 v2 v3 → Tr.nodesErr d.ranks t = 0 → Sat Tryz.prog F99 #[.agg #[v1, v2, v3], .agg cs.toArray] H (fun r _ => r = .int .i64 (Tr.run d t)) := by
  intro m
  induction m with
  | zero => intro t H cs h; have := t.size_pos; omega
  | succ m ih =>
  intro t H cs hm hb hr hd hne
  have hnt := hne
  cases hr with | mk s ts a cap b off cs' hs ha hA hrec =>
  have hsz : (Tr.node s ts).size = 1 + Tr.sizes ts := rfl
  have hln := Tr.length_le_sizes ts
  obtain ⟨hn1, hn2, hn3⟩ := Tr.nodesErr_zero.1 hne
  have hro : ∀ t ∈ ts, i64ok (Tr.run d t) := by
    intro t ht
    have := Tr.run_ok hok _ t (Nat.le_refl _) (hn3 t ht)
    have := hok.n
    simp only [i64ok]; omega
  obtain ⟨ua1, uc1x, rfl⟩ := hd.r.shape
  obtain ⟨ua2, uc2x, rfl⟩ := hd.a.shape
  obtain ⟨ua3, uc3x, rfl⟩ := hd.t.shape
  refine enterO (n := 27) (args := [.agg #[.slice ua1 d.ranks.length uc1x, .slice ua2 d.acc.length uc2x, .slice ua3 d.to.length uc3x], .agg #[.int .i64 s, .slice a ts.length cap]]) Tryz.func93 rfl rfl rfl fun w0 => ?_
  refine K_seq ?_
  refine K_region ?_
  refine KA (A_box rfl) rfl fun b2 => ?_
  refine KA (A_box rfl) rfl fun b3 => ?_
  refine KV (R_assign rfl) rfl ?_
  refine K_nil ?_
  refine Q_then ?_
  refine K_seq ?_
  refine K_region ?_
  refine KV (R_assign rfl) rfl ?_
  refine K_nil ?_
  refine Q_then ?_
  refine K_seq ?_
  refine K_seq ?_
  refine K_region ?_
  refine KV (R_fieldAddr 1 fd30_1 rfl) rfl ?_
  refine KV (R_loadO ty28 0 rfl rfl rfl rfl (fun _ => rfl) rfl) rfl ?_
  refine KV (R_len sl28 rfl) rfl ?_
  refine KV (R_move rfl) rfl ?_
  refine K_nil ?_
  refine Q_then ?_
  refine K_block ?_
  refine K_nilrow T3 1 ?_
  refine K_loopD (G := Nat × View × Value) [5, 7, 11, 12, 13, 14, 15, 16, 17, 18, 19, 20, 21] (fun g => [(11, .int .i64 (g.1 : Int)), (5, g.2.2)]) (fun hl g => (hl.set 0 (row g.2.2 T3 1 g.1 (ints ((ts.take g.1).map (Tr.run d)))))) (fun g => g.2.1) (fun g => (g.1 ≤ ts.length) ∧ (VLe H g.2.1) ∧ (∃ ad cp, g.2.2 = .slice ad g.1 cp)) (fun g => ts.length - g.1) (0, H, nilS) ⟨Nat.zero_le _, VLe.refl _, none, 0, rfl⟩ ⟨rfl, rfl, trivial⟩ (by simp only [args0, Nat.reduceAdd, del, memN, beqN, Nat.reduceBEq, cond_true, cond_false]; rfl) rfl rfl ?_
  rintro ⟨k, V, w⟩ ⟨hk, hV, hw⟩
  dsimp only at hk hV hw
  dsimp only [List.set, List.cons_append, List.nil_append]
  obtain ⟨wa, wcp, rfl⟩ := hw
  refine K_seq ?_
  refine K_region ?_
  refine KV (R_cmp rfl rfl rfl) rfl ?_
  refine K_nil ?_
  refine Q_then ?_
  refine K_seq ?_
  refine K_if rfl (fun h12 => ?_) (fun h12 => ?_)
  ·
    have hlt' : k < ts.length := by omega
    have htk := Tr.sizes_take ts k hlt'
    have hle' := Tr.sizes_take_le ts (k + 1)
    have ha' := ha (by intro e; subst e; simp at hlt')
    subst ha'
    obtain ⟨y0, y1, y2, y3, hcs⟩ := (hrec k hlt').shape
    have hreck := (hrec k hlt').mono hV
    rw [hcs] at hreck
    refine K_skip ?_
    refine Q_then ?_
    refine K_seq ?_
    refine K_block ?_
    refine K_seq ?_
    refine K_region ?_
    refine KV (R_indexN sl28 ty30 rfl rfl (by omega)) rfl ?_
    refine KV (R_loadH ty30 rfl (hcs ▸ (hA k hlt').2.mono hV) rfl (fun e => by cases e) rfl) rfl ?_
    refine KA (A_alloc z30) rfl fun b7 => ?_
    refine K_store ty30 0 rfl rfl rfl rfl rfl rfl ?_
    refine K_nil ?_
    refine Q_then ?_
    refine K_region ?_
    refine KV (R_move rfl) rfl ?_
    refine KV (R_loadO ty54 3 rfl rfl rfl rfl (fun e => by cases e) rfl) rfl ?_
    refine KV (R_loadO ty30 0 rfl rfl rfl rfl (fun e => by cases e) rfl) rfl ?_
    refine K_call c99 rfl rfl (ih ts[k] V _ (by omega) (by omega) hreck (hd.mono hV) (hn3 _ (List.getElem_mem hlt'))) ?_
    rintro _ V1 hle1 rfl
    refine KA (A_buildSlice (vs := [.int .i64 (Tr.run d ts[k])]) sl25 ty3 z3 rfl rfl (by simp [Value.cells]) (by simp) rfl (by decide)) rfl fun b19 => ?_
    refine K_append1 1 ap25 rfl rfl rfl rfl rfl rfl ⟨by omega, by omega⟩ rfl fun a20 k20 hn20 => ?_
    refine KV (R_assign rfl) rfl ?_
    refine K_nil ?_
    refine Q_block ?_
    refine Q_then ?_
    refine K_region ?_
    refine KV (R_add rfl rfl (by omega)) rfl ?_
    refine KV (R_move rfl) rfl ?_
    refine K_nil ?_
    refine KQ_sel [0, 1, 1] rfl ?_
    refine Q_nextD (k + 1, V1, .slice a20 (k + 1) k20) ⟨hlt', hV.trans hle1, _, _, rfl⟩ (by (try dsimp only); omega) ⟨rfl, rfl, trivial⟩ rfl (by dsimp only; rw [take_ints_snoc hlt']; rfl) rfl
  ·
    have hk' : k = ts.length := by omega
    subst hk'
    rw [List.take_length]
    refine K_exit ?_
    refine Q_then_exit ?_
    refine Q_then_exit ?_
    refine Q_block_exit ?_
    refine Q_then ?_
    refine K_seq ?_
    refine KC_pubrow rfl fun W hW hrow => ?_
    refine K_region ?_
    refine KV (R_loadO ty54 1 rfl rfl rfl rfl (fun e => by cases e) rfl) rfl ?_
    refine KV (R_fieldAddr 0 fd30_0 rfl) rfl ?_
    refine KV (R_loadO ty3 0 rfl rfl rfl rfl (fun _ => rfl) rfl) rfl ?_
    refine KV (R_move rfl) rfl ?_
    refine K_call c91 rfl rfl (at_spec d hok s (ts.map (Tr.run d)) _ _ _ _ W (hd.mono (hV.trans hW)) ⟨by rw [List.length_map]; exact hrow.sl, by intro x hx; obtain ⟨t, ht, rfl⟩ := List.mem_map.1 hx; exact hro t ht⟩ hn1 (by rw [List.length_map]; exact hn2) (by intro x hx; obtain ⟨t, ht, rfl⟩ := List.mem_map.1 hx; exact Tr.run_ok hok _ t (Nat.le_refl _) (hn3 t ht))) ?_
    rintro _ V1 hle1 rfl
    refine KV (R_assign rfl) rfl ?_
    refine K_nil ?_
    refine Q_then ?_
    refine K_ret ?_
    refine results_gen (rs := [.tmp 4]) (vs := [_]) rfl ⟨rfl, trivial⟩ ?_
    rw [Tr.run, Tr.runs_map]
    rfl

theorem drun_spec (d : Dt) (v1 v2 v3 : Value) (t : Tr) (H : View) (cs : List Value) (hb : d.ranks.length ≤ 1048576 ∧ d.acc.length ≤ 1048576 ∧ d.to.length ≤ 1048576 ∧ ∀ x ∈ d.to, x.length ≤ 1048576) (hbt : t.size ≤ 1073741824) (hd : RepDt H d v1 v2 v3) (hr : RepT H t cs) : Sat Tryz.prog F76 #[.agg #[v1, v2, v3], .agg cs.toArray] H
    (fun r _ => ∃ s e, r = .tuple #[.int .i64 s, .int .i64 e] ∧ ((dtErr d ≠ 0 ∧ e = dtErr d) ∨ (dtErr d = 0 ∧ e = validErr d.ranks t ∧ (e = 0 → s = Tr.run d t)))) := by
  obtain ⟨x0, x1, x2, x3, rfl⟩ := hr.shape
  obtain ⟨ua1, uc1x, rfl⟩ := hd.r.shape
  obtain ⟨ua2, uc2x, rfl⟩ := hd.a.shape
  obtain ⟨ua3, uc3x, rfl⟩ := hd.t.shape
  refine enterO (n := 23) (args := [.agg #[.slice ua1 d.ranks.length uc1x, .slice ua2 d.acc.length uc2x, .slice ua3 d.to.length uc3x], .agg #[.int .i64 x0, .slice x1 x2 x3]]) Tryz.func46 rfl rfl rfl fun w0 => ?_
  refine K_seq ?_
  refine K_region ?_
  refine KA (A_box rfl) rfl fun b2 => ?_
  refine KA (A_box rfl) rfl fun b3 => ?_
  refine KV (R_assign rfl) rfl ?_
  refine KV (R_assign rfl) rfl ?_
  refine K_nil ?_
  refine Q_then ?_
  refine K_seq ?_
  refine K_seq ?_
  refine K_region ?_
  refine KV (R_loadO ty54 1 rfl rfl rfl rfl (fun e => by cases e) rfl) rfl ?_
  refine K_call c63 rfl rfl (dcheck_spec d _ _ _ H hd hb) ?_
  rintro _ V1 hv1 rfl
  refine KV (R_assign rfl) rfl ?_
  refine K_nil ?_
  refine Q_then ?_
  refine K_seq ?_
  refine K_region ?_
  refine KV (R_move rfl) rfl ?_
  refine KV (R_cmp rfl rfl rfl) rfl ?_
  refine K_nil ?_
  refine Q_then ?_
  refine K_if rfl (fun h11 => ?_) (fun h11 => ?_)
  ·
    refine K_seq ?_
    refine K_region ?_
    refine KV (R_move rfl) rfl ?_
    refine KV (R_assign rfl) rfl ?_
    refine KV (R_assign rfl) rfl ?_
    refine K_nil ?_
    refine Q_then ?_
    refine K_ret ?_
    refine Q_then_ret ?_
    refine results_gen (rs := [.tmp 4, .tmp 5]) (vs := [_, _]) rfl ⟨rfl, ⟨rfl, trivial⟩⟩ ?_
    exact ⟨_, _, rfl, .inl ⟨h11, rfl⟩⟩
  ·
    have hde : dtErr d = 0 := Decidable.not_not.1 h11
    refine K_skip ?_
    refine Q_then ?_
    refine K_seq ?_
    refine K_seq ?_
    refine K_region ?_
    refine KV (R_fieldAddr 0 fd54_0 rfl) rfl ?_
    refine KV (R_loadO ty47 1 rfl rfl rfl rfl (fun _ => rfl) rfl) rfl ?_
    refine KV (R_loadO ty30 0 rfl rfl rfl rfl (fun e => by cases e) rfl) rfl ?_
    refine K_call c98 rfl rfl (pvalid_spec d.ranks _ t V1 _ hb.1 hbt (hr.mono hv1) ((hd.mono hv1).r)) ?_
    rintro _ V2 hv2 rfl
    refine KV (R_assign rfl) rfl ?_
    refine K_nil ?_
    refine Q_then ?_
    refine K_seq ?_
    refine K_region ?_
    refine KV (R_move rfl) rfl ?_
    refine KV (R_cmp rfl rfl rfl) rfl ?_
    refine K_nil ?_
    refine Q_then ?_
    refine K_if rfl (fun h18 => ?_) (fun h18 => ?_)
    ·
      refine K_seq ?_
      refine K_region ?_
      refine KV (R_move rfl) rfl ?_
      refine KV (R_assign rfl) rfl ?_
      refine KV (R_assign rfl) rfl ?_
      refine K_nil ?_
      refine Q_then ?_
      refine K_ret ?_
      refine Q_then_ret ?_
      refine results_gen (rs := [.tmp 4, .tmp 5]) (vs := [_, _]) rfl ⟨rfl, ⟨rfl, trivial⟩⟩ ?_
      exact ⟨_, _, rfl, .inr ⟨hde, rfl, fun h => absurd h h18⟩⟩
    ·
      have hve : validErr d.ranks t = 0 := Decidable.not_not.1 h18
      have hne : Tr.nodesErr d.ranks t = 0 := by
        have h := hve
        unfold validErr at h
        split at h
        · rename_i g; exact absurd h g
        · split at h
          · cases h
          · split at h
            · cases h
            · exact h
      refine K_skip ?_
      refine Q_then ?_
      refine K_seq ?_
      refine K_region ?_
      refine KV (R_loadO ty54 1 rfl rfl rfl rfl (fun e => by cases e) rfl) rfl ?_
      refine KV (R_loadO ty30 0 rfl rfl rfl rfl (fun e => by cases e) rfl) rfl ?_
      refine K_call c99 rfl rfl (run_spec d (DtOk.of hde) _ _ _ t.size t V2 _ (Nat.le_refl _) (by omega) (hr.mono (hv1.trans hv2)) (hd.mono (hv1.trans hv2)) hne) ?_
      rintro _ V3 hv3 rfl
      refine KV (R_assign rfl) rfl ?_
      refine KV (R_assign rfl) rfl ?_
      refine K_nil ?_
      refine Q_then ?_
      refine K_ret ?_
      refine results_gen (rs := [.tmp 4, .tmp 5]) (vs := [_, _]) rfl ⟨rfl, ⟨rfl, trivial⟩⟩ ?_
      exact ⟨_, _, rfl, .inr ⟨hde, hve.symm, fun _ => rfl⟩⟩

theorem daccepts_spec (d : Dt) (v1 v2 v3 : Value) (t : Tr) (H : View) (cs : List Value) (hb : d.ranks.length ≤ 1048576 ∧ d.acc.length ≤ 1048576 ∧ d.to.length ≤ 1048576 ∧ ∀ x ∈ d.to, x.length ≤ 1048576) (hbt : t.size ≤ 1073741824) (hd : RepDt H d v1 v2 v3) (hr : RepT H t cs) : Sat Tryz.prog F40 #[.agg #[v1, v2, v3], .agg cs.toArray] H (fun r _ => r = .bool (acceptsM d t)) := by
  obtain ⟨x0, x1, x2, x3, rfl⟩ := hr.shape
  obtain ⟨ua1, uc1x, rfl⟩ := hd.r.shape
  obtain ⟨ua2, uc2x, rfl⟩ := hd.a.shape
  obtain ⟨ua3, uc3x, rfl⟩ := hd.t.shape
  refine enterO (n := 22) (args := [.agg #[.slice ua1 d.ranks.length uc1x, .slice ua2 d.acc.length uc2x, .slice ua3 d.to.length uc3x], .agg #[.int .i64 x0, .slice x1 x2 x3]]) Tryz.func16 rfl rfl rfl fun w0 => ?_
  refine K_seq ?_
  refine K_region ?_
  refine KA (A_box rfl) rfl fun b2 => ?_
  refine KA (A_box rfl) rfl fun b3 => ?_
  refine KV (R_assign rfl) rfl ?_
  refine K_nil ?_
  refine Q_then ?_
  refine K_seq ?_
  refine K_region ?_
  refine KV (R_loadO ty54 1 rfl rfl rfl rfl (fun e => by cases e) rfl) rfl ?_
  refine KV (R_loadO ty30 0 rfl rfl rfl rfl (fun e => by cases e) rfl) rfl ?_
  refine K_call c76 rfl rfl (drun_spec d _ _ _ t H _ hb hbt hd hr) ?_
  rintro _ V1 hv1 ⟨s, e, rfl, hse⟩
  refine KV (R_move rfl) rfl ?_
  refine KV (R_extract rfl rfl) rfl ?_
  refine KV (R_extract rfl rfl) rfl ?_
  refine KV (R_assign rfl) rfl ?_
  refine KV (R_assign rfl) rfl ?_
  refine K_nil ?_
  refine Q_then ?_
  refine K_seq ?_
  refine K_region ?_
  refine KV (R_move rfl) rfl ?_
  refine KV (R_cmp rfl rfl rfl) rfl ?_
  refine KV (R_move rfl) rfl ?_
  refine K_split ?_ ?_
  ·
    intro h15
    have hde : dtErr d = 0 := by
      rcases hse with ⟨g1, g2⟩ | ⟨g1, _⟩
      · omega
      · exact g1
    obtain ⟨hve, hst⟩ : validErr d.ranks t = 0 ∧ s = Tr.run d t := by
      rcases hse with ⟨g1, g2⟩ | ⟨_, g2, g3⟩
      · omega
      · exact ⟨by omega, g3 h15⟩
    subst hst
    have hne : Tr.nodesErr d.ranks t = 0 := by
      have h := hve
      unfold validErr at h
      split at h
      · rename_i g; exact absurd h g
      · split at h
        · cases h
        · split at h
          · cases h
          · exact h
    have hrn := Tr.run_ok (DtOk.of hde) _ t (Nat.le_refl _) hne
    have hrl : (Tr.run d t).toNat < d.acc.length := by omega
    obtain ⟨tb, to_, hte, hta⟩ := (SB.mono hd.a hv1).get hrl
    cases hte
    refine K_gyes rfl rfl ?_
    refine KV (R_fieldAddr 1 fd54_1 rfl) rfl ?_
    refine K_gyes rfl rfl ?_
    refine KV (R_loadO ty52 1 rfl rfl rfl rfl (fun _ => rfl) rfl) rfl ?_
    refine K_gyes rfl rfl ?_
    refine KV (R_move rfl) rfl ?_
    refine K_gyes rfl rfl ?_
    refine KV (R_index sl52 ty4 rfl rfl ⟨hrn.1, hrn.2⟩) rfl ?_
    refine K_gyes rfl rfl ?_
    refine KV (R_loadH ty4 rfl (hta) rfl (fun _ => rfl) rfl) rfl ?_
    refine KV (R_pickT rfl rfl) rfl ?_
    refine KV (R_assign rfl) rfl ?_
    refine K_nil ?_
    refine Q_then ?_
    refine K_ret ?_
    refine results_gen (rs := [.tmp 4]) (vs := [_]) rfl ⟨rfl, trivial⟩ ?_
    refine congrArg Value.bool ?_
    unfold acceptsM
    rw [if_neg (by rw [hde]; simp), if_neg (by rw [hve]; simp)]
    simp [List.getD, hrl]
  ·
    intro h15
    refine K_gno rfl rfl rfl rfl ?_
    refine K_gno rfl rfl rfl rfl ?_
    refine K_gno rfl rfl rfl rfl ?_
    refine K_gno rfl rfl rfl rfl ?_
    refine K_gno rfl rfl rfl rfl ?_
    refine KV (R_pickF rfl rfl) rfl ?_
    refine KV (R_assign rfl) rfl ?_
    refine K_nil ?_
    refine Q_then ?_
    refine K_ret ?_
    refine results_gen (rs := [.tmp 4]) (vs := [_]) rfl ⟨rfl, trivial⟩ ?_
    refine congrArg Value.bool (Eq.symm ?_)
    unfold acceptsM
    rcases hse with ⟨g1, g2⟩ | ⟨g1, g2, _⟩
    · rw [if_pos g1]
    · rw [if_neg (by rw [g1]; simp), if_pos (by omega)]
end Go.Proofs.X

namespace Go.Proofs.X
open Go Pal Go.Proofs
attribute [local irreducible] Pal.KO Pal.KC Pal.KQ Pal.KD
theorem ty139 : Ty Tryz.prog T139 false 1 := .of (by kernel_rfl)
theorem z139 : zeroOk Tryz.prog T139 (.nilFunc) := .of (by kernel_rfl)
theorem c111 : callable Tryz.prog F111 = true := by kernel_rfl
theorem clone25o_spec (p : HL) (xs : List Int) (v : Value) (H : View) (hrd : Rd H p v xs.length (ints xs)) (hl : xs.length ≤ 1099511627776) : SatO Tryz.prog F65 #[v] H p (fun w _ q => q = row w T3 1 xs.length (ints xs) :: p) := by
  obtain ⟨a, cp, rfl, hsh⟩ := hrd.sh
  refine enterO (n := 8) (args := [.slice a xs.length cp]) Tryz.func45 rfl rfl rfl fun w0 => ?_
  refine K_seq ?_
  refine K_region ?_
  refine KV (R_assign rfl) rfl ?_
  refine K_nil ?_
  refine Q_then ?_
  refine K_seq ?_
  refine K_seq ?_
  refine K_region ?_
  refine KV (R_move rfl) rfl ?_
  refine KV (R_sliceNil sl25 rfl rfl) rfl ?_
  refine K_nil ?_
  refine Q_then ?_
  cases a with
  | none =>
    have hx0 : xs = [] := by
      rcases hsh with h3 | ⟨b, off, h3⟩
      · exact List.eq_nil_of_length_eq_zero h3
      · cases h3
    subst hx0
    refine K_ifT rfl ?_
    refine K_seq ?_
    refine K_region ?_
    refine KV (R_assign rfl) rfl ?_
    refine K_nil ?_
    refine Q_then ?_
    refine K_ret ?_
    refine Q_then_ret ?_
    refine KQ_nilrow T3 1 ?_
    refine results_gen (rs := [.tmp 2]) (vs := [_]) rfl ⟨rfl, trivial⟩ ?_
    rfl
  | some aa =>
    refine K_ifF rfl ?_
    refine K_skip ?_
    refine Q_then ?_
    refine K_seq ?_
    refine K_region ?_
    refine KA (A_buildSlice (vs := []) sl25 ty3 z3 rfl rfl (by simp) (by simp) rfl (by decide)) rfl fun b5 => ?_
    refine KV (R_move rfl) rfl ?_
    refine K_appendRd0 (p := p) (r := []) ap25 sl25 rfl rfl (by rw [List.append_nil]; exact List.Perm.refl _) hrd (by simp [ints]) (ints_one _) ⟨by omega, by omega⟩ rfl fun a7 k7 => ?_
    refine KV (R_assign rfl) rfl ?_
    refine K_nil ?_
    refine Q_then ?_
    refine K_ret ?_
    refine results_gen (rs := [.tmp 2]) (vs := [_]) rfl ⟨rfl, trivial⟩ ?_
    rw [List.append_nil]; rfl

theorem listv_spec (n gf : Nat) (cap : List Value) (src : List Int) (sv : Value) (T : List (List Int)) (E : List (List Int) → View → HL → Prop) (H0 : View) (hV0 : VisitL Tryz.prog gf cap H0 src T E) (hcal : callable Tryz.prog gf = true) (hk : src.length ≤ 1048576) (hn : n ≤ 1048576)
    (hso : ∀ x ∈ src, i64ok x) (b1 b2 b3 b4 : Nat) : ∀ m is pre a len cp H p, is.length = len → VLe H0 H → len + m = n → SI H (.slice a len cp) (pickD src is) → E pre H p → (pre ++ ext src.length m is) <+: T →
    At H b1 0 [.int .i64 (n : Int)] → At H b2 0 [.func (.func gf) #[] cap.toArray] → At H b3 0 [sv] → SI H sv src → At H b4 0 [.func (.func F111) #[] #[ptr b1, ptr b2, ptr b3, ptr b4]] →
    SatO Tryz.prog F111 #[.slice a len cp, ptr b1, ptr b2, ptr b3, ptr b4] H p (fun v V' q => v = .tuple #[] ∧ E (pre ++ ext src.length m is) V' q) := by
  intro m
  induction m using Nat.strongRecOn with | _ m ih =>
  intro is pre a len cp H p hlen h0 hm hs hE hpf h1 h2 h3 hsrc h4
  obtain ⟨sa, scp, rfl⟩ := hsrc.shape
  have hpl := pickD_len src is
  refine enterO (n := 29) (args := [.slice a len cp, ptr b1, ptr b2, ptr b3, ptr b4]) Tryz.func136 rfl rfl rfl fun w0 => ?_
  refine K_seq ?_
  refine K_seq ?_
  refine K_region ?_
  refine KV (R_move rfl) rfl ?_
  refine KV (R_len sl25 rfl) rfl ?_
  refine KV (R_loadH ty3 rfl (h1) rfl (fun _ => rfl) rfl) rfl ?_
  refine KV (R_cmp rfl rfl rfl) rfl ?_
  refine K_nil ?_
  refine Q_then ?_
  refine K_if rfl (fun h11 => ?_) (fun h11 => ?_)
  ·
    have hm0 : m = 0 := by omega
    subst hm0
    refine K_seq ?_
    refine K_region ?_
    refine KV (R_loadH ty139 rfl (h2) rfl (fun _ => rfl) rfl) rfl ?_
    refine KV (R_move rfl) rfl ?_
    refine K_callO (first := []) p [] (by rw [List.append_nil]) hcal rfl rfl rfl (hV0.2 H pre is a len cp p hlen h0 hE hpf hs) ?_
    rintro _ V1 q hle ⟨rfl, hr1⟩
    refine K_nil ?_
    refine Q_then ?_
    refine K_ret ?_
    refine Q_then_ret ?_
    refine results_gen (rs := []) (vs := []) rfl trivial ?_
    refine ⟨rfl, ?_⟩
    rw [List.append_nil]; exact hr1
  ·
    obtain ⟨m, rfl⟩ : ∃ m', m = m' + 1 := ⟨m - 1, by omega⟩
    refine K_skip ?_
    refine Q_then ?_
    refine K_seq ?_
    refine K_region ?_
    refine KV (R_loadH ty25 rfl (h3) rfl (fun _ => rfl) rfl) rfl ?_
    refine KV (R_len sl25 rfl) rfl ?_
    refine KV (R_move rfl) rfl ?_
    refine K_nil ?_
    refine Q_then ?_
    refine K_block ?_
    refine K_loopD (G := Nat × View × HL) [7, 17, 18, 19, 20, 21, 22, 23, 24, 25, 26, 27, 28] (fun g => [(17, .int .i64 (g.1 : Int))]) (fun hl g => g.2.2) (fun g => g.2.1) (fun g => (g.1 ≤ src.length) ∧ (VLe H g.2.1) ∧ (E (pre ++ extTo src.length m is g.1) g.2.1 g.2.2)) (fun g => src.length - g.1) (0, H, p) ⟨Nat.zero_le _, VLe.refl H, by simpa [extTo] using hE⟩ ⟨rfl, trivial⟩ (by simp only [args0, Nat.reduceAdd, del, memN, beqN, Nat.reduceBEq, cond_true, cond_false]; rfl) rfl rfl ?_
    rintro ⟨i, V, q1⟩ ⟨hi0, hVV, hE1⟩
    dsimp only at hi0 hVV hE1
    dsimp only [List.set, List.cons_append, List.nil_append]
    refine K_seq ?_
    refine K_region ?_
    refine KV (R_cmp rfl rfl rfl) rfl ?_
    refine K_nil ?_
    refine Q_then ?_
    refine K_seq ?_
    refine K_if rfl (fun h18 => ?_) (fun h18 => ?_)
    ·
      have hi2 : i < src.length := by omega
      obtain ⟨tb, to_, hte, hta⟩ := (hsrc.mono hVV).get hi2
      cases hte
      refine K_skip ?_
      refine Q_then ?_
      refine K_seq ?_
      refine K_block ?_
      refine K_seq ?_
      refine K_region ?_
      refine KV (R_indexN sl25 ty3 rfl rfl (by omega)) rfl ?_
      refine KV (R_loadH ty3 rfl (hta) rfl (fun _ => rfl) rfl) rfl ?_
      refine KV (R_assign rfl) rfl ?_
      refine K_nil ?_
      refine Q_then ?_
      refine K_regionD (fin := false) (R := [0, 1, 3, 2, 4, 5, 6]) (by kernel_rfl) mixed (List.nil_sublist _) ?_
      refine D_val rfl rfl rfl (R_loadH ty139 rfl (h4.mono hVV) rfl (fun _ => rfl) rfl) ?_
      refine D_val rfl rfl rfl (R_move rfl) ?_
      refine D_val rfl rfl rfl (R_move rfl) ?_
      have hrd23 : Rd V [] (.slice a len cp) (pickD src is).length (ints (pickD src is)) := (hs.mono hVV).1.rd
      refine D_callO (first := []) [] _ rfl rfl c65 rfl rfl (List.Perm.refl _) trivial (clone25o_spec [] (pickD src is) _ V (by rw [show len = (pickD src is).length by omega]; rw [show len = (pickD src is).length by omega] at hrd23; exact hrd23) (by omega)) ?_
      rintro v23 V2 q hle2 rfl
      dsimp only [List.cons_append, List.nil_append]
      refine D_alloc rfl rfl rfl (A_buildSlice (vs := [.int .i64 src[i]]) sl25 ty3 z3 rfl rfl (by simp [Value.cells]) (by simp) rfl (by decide)) fun b25 => ?_
      refine D_append1Pub 0 ap25 rfl rfl rfl rfl rfl rfl trivial rfl rfl ⟨by omega, by omega⟩ fun a26 k26 V3 hle3 hc26 hs26 => ?_
      refine D_callO (first := []) q1 [] rfl rfl c111 rfl rfl (by rw [List.append_nil]; exact List.Perm.refl _) trivial (ih m (by omega) (is ++ [(i : Int)]) (pre ++ extTo src.length m is i) _ ((pickD src is).length + 1) _ V3 q1 (by simp [pickD_len]) (h0.trans (hVV.trans (hle2.trans hle3))) (by omega) ?_ (hV0.1 _ _ _ _ (hle2.trans hle3) hE1) ?_ (h1.mono (hVV.trans (hle2.trans hle3))) (h2.mono (hVV.trans (hle2.trans hle3))) (h3.mono (hVV.trans (hle2.trans hle3))) (hsrc.mono (hVV.trans (hle2.trans hle3))) (h4.mono (hVV.trans (hle2.trans hle3)))) ?_
      · rw [pickD_snoc _ _ _ hi2]
        refine ⟨?_, ?_⟩
        · have e1 : (pickD src is ++ [src[i]]).length = len + 1 := by simp [hpl, hlen]
          have e2 : ints (pickD src is ++ [src[i]]) = ints (pickD src is) ++ [Value.int .i64 src[i]] := by simp [ints]
          rw [e1, e2, ← hlen, ← hpl]
          exact hs26
        · intro x hx
          rcases List.mem_append.1 hx with hx | hx
          · exact hs.2 x hx
          · simp at hx; subst hx; exact hso _ (List.getElem_mem hi2)
      · exact ext_prefix hi2 hpf
      rintro _ V4 q2 hle4 ⟨rfl, hr1⟩
      refine D_done ?_
      refine Q_block ?_
      refine Q_then ?_
      refine K_region ?_
      refine KV (R_add rfl rfl (by omega)) rfl ?_
      refine KV (R_move rfl) rfl ?_
      refine K_nil ?_
      refine Q_nextD (i + 1, V4, q2) ⟨hi2, hVV.trans (hle2.trans (hle3.trans hle4)), by rw [extTo_succ, ← List.append_assoc]; exact hr1⟩ (by (try dsimp only); omega) ⟨rfl, trivial⟩ rfl (List.append_nil _) rfl
    ·
      have hi2 : i = src.length := by omega
      subst hi2
      refine K_exit ?_
      refine Q_then_exit ?_
      refine Q_then_exit ?_
      refine Q_block_exit ?_
      refine Q_fall ?_
      refine results_gen (rs := []) (vs := []) rfl trivial ?_
      exact ⟨rfl, hE1⟩

theorem lists_spec (n gf : Nat) (cap : List Value) (src : List Int) (sv : Value) (E : List (List Int) → View → HL → Prop) (H : View) (p : HL) (hV : VisitL Tryz.prog gf cap H src (ext src.length n []) E) (hcal : callable Tryz.prog gf = true) (hk : src.length ≤ 1048576) (hn : n ≤ 1048576)
    (hsrc : SI H sv src) (hE : E [] H p) : SatO Tryz.prog F93 #[.int .i64 (n : Int), sv, .func (.func gf) #[] cap.toArray] H p (fun v V' q => v = .tuple #[] ∧ E (ext src.length n []) V' q) := by
  obtain ⟨sa, scp, rfl⟩ := hsrc.shape
  refine enterO (n := 10) (args := [.int .i64 (n : Int), .slice sa src.length scp, .func (.func gf) #[] cap.toArray]) Tryz.func87 rfl rfl rfl fun w0 => ?_
  refine K_seq ?_
  refine K_region ?_
  refine KA (A_box rfl) rfl fun b3 => ?_
  refine KA (A_box rfl) rfl fun b4 => ?_
  refine KA (A_box rfl) rfl fun b5 => ?_
  refine K_nil ?_
  refine Q_then ?_
  refine K_seq ?_
  refine K_region ?_
  refine KA (A_alloc z139) rfl fun b6 => ?_
  refine K_nil ?_
  refine Q_then ?_
  refine K_seq ?_
  refine K_region ?_
  refine KV (R_makeFunc rfl rfl) rfl ?_
  refine K_store ty139 0 rfl rfl rfl rfl rfl rfl ?_
  refine K_nil ?_
  refine KQ_pubF fun V1 hle1 hb6 => ?_
  refine KQ_pubF fun V2 hle2 hb5 => ?_
  refine KQ_pubF fun V3 hle3 hb4 => ?_
  refine KQ_pubF fun V4 hle4 hb3 => ?_
  have hv4 := hle1.trans (hle2.trans (hle3.trans hle4))
  refine Q_then ?_
  refine K_region ?_
  refine KV (R_loadH ty139 rfl ((At.of hb6).mono (hle2.trans (hle3.trans hle4))) rfl (fun _ => rfl) rfl) rfl ?_
  refine K_callO (first := []) p [] (by rw [List.append_nil]) c111 rfl rfl rfl (listv_spec n gf cap src _ (ext src.length n []) E H hV hcal hk hn hsrc.2 b3 b5 b4 b6 n [] [] none 0 0 V4 p rfl hv4 (by omega) ⟨⟨none, 0, rfl, .inl ⟨rfl, rfl⟩⟩, by simp [pickD]⟩ (hV.1 _ _ _ _ hv4 hE) (List.prefix_refl _) (At.of hb3) ((At.of hb5).mono (hle3.trans hle4)) ((At.of hb4).mono hle4) (hsrc.mono hv4) ((At.of hb6).mono (hle2.trans (hle3.trans hle4)))) ?_
  rintro _ V5 q hle5 ⟨rfl, hr1⟩
  refine K_nil ?_
  refine Q_fall ?_
  refine results_gen (rs := []) (vs := []) rfl trivial ?_
  refine ⟨rfl, ?_⟩
  rw [List.append_nil]; exact hr1
end Go.Proofs.X

namespace Go.Proofs.X
open Go Pal Go.Proofs
attribute [local irreducible] Pal.KO Pal.KC Pal.KQ Pal.KD
theorem z52 : zeroOk Tryz.prog T52 (.slice none 0 0) := .of (by kernel_rfl)
theorem c93 : callable Tryz.prog F93 = true := by kernel_rfl
theorem c94 : callable Tryz.prog F94 = true := by kernel_rfl
theorem foundc_spec (d : Dt) (hok : DtOk d) (s : Nat) (xs out : List Int) (b1 b7 b4 b3 bi : Nat) (v w1 w2 w3 : Value) (oa : Option Addr) (oc : Nat) (H : View) (hd : RepDt H d w1 w2 w3) (hA1 : At H b1 0 [w1, w2, w3]) (hA7 : At H b7 0 [.int .i64 (s : Int)]) (hA4 : At H b4 0 [slc d.acc.length bi]) (hv : SI H v xs)
    (hs : s < d.ranks.length) (hl : (xs.length : Int) = d.ranks.getD s 0) (hx : ∀ x ∈ xs, 0 ≤ x ∧ x < (d.acc.length : Int)) (hf : FoundOk d out) :
    SatO Tryz.prog F94 #[v, ptr b1, ptr b7, ptr b4, ptr b3] H [blk b3 (.cells #[.slice oa out.length oc] T25 (0, 0)), row (.slice oa out.length oc) T3 1 out.length (ints out), blk bi (.cells (marks d.acc.length out) T4 (0, 0))] (fun r _ q => r = .tuple #[] ∧ ∃ oa' oc', q = [blk b3 (.cells #[.slice oa' (findD d (s : Int) out xs).length oc'] T25 (0, 0)), row (.slice oa' (findD d (s : Int) out xs).length oc') T3 1 (findD d (s : Int) out xs).length (ints (findD d (s : Int) out xs)), blk bi (.cells (marks d.acc.length (findD d (s : Int) out xs)) T4 (0, 0))]) := by
  obtain ⟨xa, xcp, rfl⟩ := hv.shape
  obtain ⟨ua1, uc1x, rfl⟩ := hd.r.shape
  obtain ⟨ua2, uc2x, rfl⟩ := hd.a.shape
  obtain ⟨ua3, uc3x, rfl⟩ := hd.t.shape
  have hn := hok.n
  have hol := hf.len
  have hat := (hok.at_ok (s := (s : Int)) (l := xs) ⟨by omega, by omega⟩ (by simpa using hl) hx).2.2
  refine enterO (n := 23) (args := [.slice xa xs.length xcp, ptr b1, ptr b7, ptr b4, ptr b3]) Tryz.func88 rfl rfl rfl fun w0 => ?_
  refine K_seq ?_
  refine K_region ?_
  refine KV (R_loadH ty54 rfl (hA1) rfl (fun e => by cases e) rfl) rfl ?_
  refine KV (R_loadH ty3 rfl (hA7) rfl (fun _ => rfl) rfl) rfl ?_
  refine KV (R_move rfl) rfl ?_
  refine K_call c91 rfl rfl (at_spec d hok (s : Int) xs _ _ _ _ H hd hv ⟨by omega, by omega⟩ (by simpa using hl) hx) ?_
  rintro _ V1 hle1 rfl
  refine KV (R_assign rfl) rfl ?_
  refine K_nil ?_
  refine Q_then ?_
  refine K_seq ?_
  refine K_region ?_
  refine KV (R_loadH ty52 rfl (hA4.mono hle1) rfl (fun _ => rfl) rfl) rfl ?_
  refine KV (R_move rfl) rfl ?_
  refine KV (R_index sl52 ty4 rfl rfl hat) rfl ?_
  refine KV (R_loadC ty4 2 rfl rfl (marks_get hat (by omega))) rfl ?_
  refine KV (R_notP rfl) rfl ?_
  refine K_nil ?_
  refine Q_then ?_
  refine K_if rfl (fun h15 => ?_) (fun h15 => ?_)
  ·
    refine K_seq ?_
    refine K_region ?_
    refine KV (R_loadH ty52 rfl (hA4.mono hle1) rfl (fun _ => rfl) rfl) rfl ?_
    refine KV (R_move rfl) rfl ?_
    refine KV (R_index sl52 ty4 rfl rfl hat) rfl ?_
    refine K_storeE ty4 2 rfl rfl rfl rfl (by rw [marks_size]; show _ + 1 ≤ _; omega) rfl (marks_put hat (by omega)) ?_
    refine K_nil ?_
    refine Q_then ?_
    refine K_region ?_
    refine KV (R_loadO ty25 0 rfl rfl rfl rfl (fun _ => rfl) rfl) rfl ?_
    refine KV (R_move rfl) rfl ?_
    refine KA (A_buildSlice (vs := [.int .i64 (atM d (s : Int) xs)]) sl25 ty3 z3 rfl rfl (by simp [Value.cells]) (by simp) rfl (by decide)) rfl fun b21 => ?_
    refine K_append1 1 ap25 rfl rfl rfl rfl rfl rfl ⟨by omega, by omega⟩ rfl fun a22 k22 hn22 => ?_
    refine K_store ty25 1 rfl rfl rfl rfl rfl rfl ?_
    refine K_nil ?_
    refine Q_fall ?_
    refine results_sel [1, 0, 0] rfl (rs := []) (vs := []) rfl trivial ?_
    have e : findD d (s : Int) out xs = out ++ [atM d (s : Int) xs] := by unfold findD; rw [if_neg h15]
    rw [e, List.length_append, ints_snoc]
    exact ⟨rfl, a22, k22, rfl⟩
  ·
    refine K_skip ?_
    refine Q_fall ?_
    refine results_sel [0, 0, 0] rfl (rs := []) (vs := []) rfl trivial ?_
    have e : findD d (s : Int) out xs = out := by unfold findD; rw [if_pos (Decidable.not_not.1 h15)]
    rw [e]
    exact ⟨rfl, oa, oc, rfl⟩

theorem found_spec (d : Dt) (hok : DtOk d) (hn64 : d.acc.length ≤ 64) (w1 w2 w3 : Value) (H : View) (hd : RepDt H d w1 w2 w3) : Sat Tryz.prog F71 #[.agg #[w1, w2, w3]] H (fun r H' => SI H' r (foundD d) ∧ FoundOk d (foundD d)) := by
  obtain ⟨ua1, uc1x, rfl⟩ := hd.r.shape
  obtain ⟨ua2, uc2x, rfl⟩ := hd.a.shape
  obtain ⟨ua3, uc3x, rfl⟩ := hd.t.shape
  have hn := hok.n
  have hrkl := (ranksErr_ok hok.rk).1
  have hrkr := (ranksErr_ok hok.rk).2
  refine enterO (n := 35) (args := [.agg #[.slice ua1 d.ranks.length uc1x, .slice ua2 d.acc.length uc2x, .slice ua3 d.to.length uc3x]]) Tryz.func36 rfl rfl rfl fun w0 => ?_
  refine K_seq ?_
  refine K_region ?_
  refine KA (A_box rfl) rfl fun b1 => ?_
  refine KV (R_assign rfl) rfl ?_
  refine K_nil ?_
  refine Q_then ?_
  refine K_seq ?_
  refine K_region ?_
  refine KA (A_alloc z25) rfl fun b3 => ?_
  refine K_nil ?_
  refine Q_then ?_
  refine K_seq ?_
  refine K_region ?_
  refine KV (R_fieldAddr 1 fd54_1 rfl) rfl ?_
  refine KV (R_loadO ty52 1 rfl rfl rfl rfl (fun _ => rfl) rfl) rfl ?_
  refine KV (R_len sl52 rfl) rfl ?_
  refine KA (A_makeSlice ap52 z4 ty4 rfl rfl (by omega) (by omega)) rfl fun b12 => ?_
  refine KA (A_alloc z52) rfl fun b4 => ?_
  refine K_store ty52 0 rfl rfl rfl rfl rfl rfl ?_
  refine K_nil ?_
  refine KQ_front 0 rfl ?_
  refine KQ_pubF fun Va hva hb4 => ?_
  refine KQ_front 2 rfl ?_
  refine KQ_pubF fun Vb hvb hb1 => ?_
  have hAb1 := At.of hb1
  have hA10 := hAb1.one (j := 0) rfl
  have hAb4 := (At.of hb4).mono hvb
  have hv0 := hva.trans hvb
  refine Q_then ?_
  refine K_seq ?_
  refine K_seq ?_
  refine K_region ?_
  refine KV (R_assign rfl) rfl ?_
  refine K_nil ?_
  refine Q_then ?_
  refine K_block ?_
  refine K_nilrow T3 1 ?_
  refine K_perm [row nilS T3 1 0 [], blk b3 (.cells #[.slice none 0 0] T25 (0, 0)), blk b12 (.cells (marks d.acc.length []) T4 (0, 0))] (by rw [← made_bools]; exact (List.Perm.swap _ _ []).cons _) ?_
  refine K_loopD (G := Nat × Int × List Int × View × Option Addr × Nat) [5, 6, 7, 8, 13, 14, 15, 16, 17, 18, 19, 20, 21, 22, 23, 24, 25, 26, 27, 28, 29, 30, 31, 32, 33] (fun g => [(5, .int .i64 g.2.1)]) (fun hl g => [row (.slice g.2.2.2.2.1 g.2.2.1.length g.2.2.2.2.2) T3 1 g.2.2.1.length (ints g.2.2.1), blk b3 (.cells #[.slice g.2.2.2.2.1 g.2.2.1.length g.2.2.2.2.2] T25 (0, 0)), blk b12 (.cells (marks d.acc.length g.2.2.1) T4 (0, 0))]) (fun g => g.2.2.2.1) (fun g => (VLe Vb g.2.2.2.1) ∧ (FoundOk d g.2.2.1) ∧ (roundsD d g.1 g.2.1 g.2.2.1 = foundD d) ∧ (64 - g.2.1 < g.1)) (fun g => g.1) (130, -1, [], Vb, none, 0) ⟨VLe.refl _, FoundOk.nil d, rfl, by dsimp only; decide⟩ ⟨rfl, trivial⟩ (by simp only [args0, Nat.reduceAdd, del, memN, beqN, Nat.reduceBEq, cond_true, cond_false]; rfl) rfl rfl ?_
  rintro ⟨F, was, out, V, oa, oc⟩ ⟨hV, hf, hF, hfu⟩
  dsimp only at hV hf hF hfu
  dsimp only [List.set, List.cons_append, List.nil_append]
  have hol := hf.len
  refine K_seq ?_
  refine K_seq ?_
  refine K_region ?_
  refine KV (R_move rfl) rfl ?_
  refine KV (R_loadO ty25 1 rfl rfl rfl rfl (fun _ => rfl) rfl) rfl ?_
  refine KV (R_len sl25 rfl) rfl ?_
  refine KV (R_cmp rfl rfl rfl) rfl ?_
  refine K_nil ?_
  refine Q_then ?_
  refine K_if rfl (fun h16 => ?_) (fun h16 => ?_)
  ·
    refine K_skip ?_
    refine Q_then ?_
    refine K_block ?_
    refine K_seq ?_
    refine K_region ?_
    refine KV (R_loadO ty25 1 rfl rfl rfl rfl (fun _ => rfl) rfl) rfl ?_
    refine KV (R_len sl25 rfl) rfl ?_
    refine KV (R_assign rfl) rfl ?_
    refine K_nil ?_
    refine Q_then ?_
    refine K_seq ?_
    refine K_region ?_
    refine KV (R_loadO ty25 1 rfl rfl rfl rfl (fun _ => rfl) rfl) rfl ?_
    refine KO_rowshape 0 rfl fun hsv => ?_
    refine K_callO (first := []) [_] [_, _] (List.Perm.refl _) c65 rfl rfl rfl (clone25o_spec [_] out _ V (row_rd hsv) (by omega)) ?_
    rintro v20 VC0 q hleC rfl
    dsimp only [List.cons_append, List.nil_append]
    refine KO_pubrowF fun VC hpc hrow20 hc20 => ?_
    have hvC := hleC.trans hpc
    obtain ⟨ca, cc, rfl, _⟩ := hc20
    have hsrc : SI VC (.slice ca out.length cc) out := ⟨hrow20.sl, hf.st.ok (by omega)⟩
    refine KV (R_assign rfl) rfl ?_
    refine K_nil ?_
    refine Q_then ?_
    refine K_seq ?_
    refine K_region ?_
    refine KV (R_fieldAddr 0 fd54_0 rfl) rfl ?_
    refine KV (R_loadH ty47 rfl (hA10.mono (hV.trans hvC)) rfl (fun _ => rfl) rfl) rfl ?_
    refine KV (R_len sl47 rfl) rfl ?_
    refine KV (R_move rfl) rfl ?_
    refine K_nil ?_
    refine Q_then ?_
    refine K_block ?_
    refine K_loopD (G := Nat × List Int × View × Option Addr × Nat) [7, 8, 24, 25, 26, 27, 28, 29, 30, 31, 32, 33] (fun g => [(24, .int .i64 (g.1 : Int))]) (fun hl g => [row (.slice g.2.2.2.1 g.2.1.length g.2.2.2.2) T3 1 g.2.1.length (ints g.2.1), blk b3 (.cells #[.slice g.2.2.2.1 g.2.1.length g.2.2.2.2] T25 (0, 0)), blk b12 (.cells (marks d.acc.length g.2.1) T4 (0, 0))]) (fun g => g.2.2.1) (fun g => (g.1 ≤ d.ranks.length) ∧ (VLe VC g.2.2.1) ∧ (FoundOk d g.2.1) ∧ (symsD d out.length d.ranks 0 out = symsD d out.length (d.ranks.drop g.1) g.1 g.2.1) ∧ (out <+: g.2.1)) (fun g => d.ranks.length - g.1) (0, out, VC, oa, oc) ⟨Nat.zero_le _, VLe.refl _, hf, rfl, List.prefix_refl _⟩ ⟨rfl, trivial⟩ (by simp only [args0, Nat.reduceAdd, del, memN, beqN, Nat.reduceBEq, cond_true, cond_false]; rfl) rfl rfl ?_
    rintro ⟨sym, out1, V1, oa1, oc1⟩ ⟨hs1, hV1, hf1, hR1, hpf⟩
    dsimp only at hs1 hV1 hf1 hR1 hpf
    dsimp only [List.set, List.cons_append, List.nil_append]
    refine K_seq ?_
    refine K_region ?_
    refine KV (R_cmp rfl rfl rfl) rfl ?_
    refine K_nil ?_
    refine Q_then ?_
    refine K_seq ?_
    refine K_if rfl (fun h25 => ?_) (fun h25 => ?_)
    ·
      have hs2 : sym < d.ranks.length := by omega
      obtain ⟨rb, ro, hre, hrk⟩ := (hd.mono (hv0.trans (hV.trans (hvC.trans hV1)))).r.get hs2
      cases hre
      have hrk2 := hrkr sym hs2
      obtain ⟨nn, hnn⟩ : ∃ nn : Nat, d.ranks[sym] = (nn : Int) := ⟨d.ranks[sym].toNat, by omega⟩
      have hnt : d.ranks[sym].toNat = nn := by omega
      rw [hnn] at hrk
      have hgd : d.ranks.getD sym 0 = d.ranks[sym] := by simp [List.getD, hs2]
      refine K_skip ?_
      refine Q_then ?_
      refine K_seq ?_
      refine K_block ?_
      refine K_seq ?_
      refine K_region ?_
      refine KV (R_move rfl) rfl ?_
      refine KV (R_indexN sl47 ty3 rfl rfl (by omega)) rfl ?_
      refine KV (R_loadH ty3 rfl (hrk) rfl (fun _ => rfl) rfl) rfl ?_
      refine KA (A_alloc z3) rfl fun b7 => ?_
      refine K_store ty3 0 rfl rfl rfl rfl rfl rfl ?_
      refine KV (R_assign rfl) rfl ?_
      refine K_nil ?_
      refine KQ_front 0 rfl ?_
      refine KQ_pubF fun Vc hvc hb7 => ?_
      refine Q_then ?_
      refine K_region ?_
      refine KV (R_move rfl) rfl ?_
      refine KV (R_move rfl) rfl ?_
      refine KV (R_makeFunc rfl rfl) rfl ?_
      have hvis : VisitL Tryz.prog F94 [ptr b1, ptr b7, ptr b4, ptr b3] Vc out (ext out.length nn []) (fun pre _ q => FoundOk d (findsD d sym out pre out1) ∧ ∃ oa oc, q = [blk b3 (.cells #[.slice oa (findsD d sym out pre out1).length oc] T25 (0, 0)), row (.slice oa (findsD d sym out pre out1).length oc) T3 1 (findsD d sym out pre out1).length (ints (findsD d sym out pre out1)), blk b12 (.cells (marks d.acc.length (findsD d sym out pre out1)) T4 (0, 0))]) := by
        refine ⟨fun _ _ _ _ _ h => h, ?_⟩
        rintro G pre is xa len cp p hlen hle ⟨hfo, oa2, oc2, rfl⟩ hpre hxs
        have hm : is ∈ ext out.length nn [] := hpre.subset (by simp)
        rw [ext_nil] at hm
        obtain ⟨hm1, hm2⟩ := tups_item hm
        have hchain := (hV.trans hvC).trans (hV1.trans (hvc.trans hle))
        have hpk := pick_ok hf.st hm2
        have hlk : ((pickD out is).length : Int) = d.ranks.getD sym 0 := by rw [pickD_len, hm1, hgd, hnn]
        have hat := (hok.at_ok (s := (sym : Int)) (l := pickD out is) ⟨by omega, by omega⟩ (by simpa using hlk) hpk).2.2
        refine (foundc_spec d hok sym (pickD out is) (findsD d sym out pre out1) b1 b7 b4 b3 b12 _ _ _ _ oa2 oc2 G (hd.mono (hv0.trans hchain)) (hAb1.mono hchain) ((At.of hb7).mono hle) (hAb4.mono hchain) hxs hs2 hlk hpk hfo).mono' ?_
        rintro v V' q ⟨rfl, oa', oc', rfl⟩
        exact ⟨rfl, by rw [findsD_snoc]; exact hfo.step hat, oa', oc', by rw [findsD_snoc]⟩
      refine K_callO (first := []) [_, _, _] [] (by rw [List.append_nil]; exact List.Perm.swap _ _ _) c93 rfl rfl rfl (lists_spec nn F94 [ptr b1, ptr b7, ptr b4, ptr b3] out _ _ Vc _ hvis c94 (by omega) (by omega) (hsrc.mono (hV1.trans hvc)) ⟨hf1, oa1, oc1, rfl⟩) ?_
      rintro _ V2 q hle2 ⟨rfl, hf2, oa2, oc2, rfl⟩
      dsimp only [List.cons_append, List.nil_append]
      have hst : findsD d sym out (ext out.length nn []) out1 = stepsD d sym (tups out.length nn) out1 := by rw [ext_nil]; exact finds_steps hpf (fun is h => (tups_item h).2)
      rw [hst] at hf2 ⊢
      refine K_nil ?_
      refine Q_block ?_
      refine Q_then ?_
      refine K_region ?_
      refine KV (R_add rfl rfl (by omega)) rfl ?_
      refine KV (R_move rfl) rfl ?_
      refine K_nil ?_
      refine KQ_sel [1, 0, 0] rfl ?_
      refine Q_nextD (sym + 1, stepsD d sym (tups out.length nn) out1, V2, oa2, oc2) ⟨hs2, hV1.trans (hvc.trans hle2), hf2, by rw [hR1, List.drop_eq_getElem_cons hs2, symsD, hnt]; rfl, hpf.trans (stepsD_len d sym _ out1)⟩ (by (try dsimp only); omega) ⟨rfl, trivial⟩ rfl rfl rfl
    ·
      have hs2' : sym = d.ranks.length := by omega
      refine K_exit ?_
      refine Q_then_exit ?_
      refine Q_then_exit ?_
      refine Q_block_exit ?_
      refine Q_block ?_
      obtain ⟨F, rfl⟩ : ∃ F2, F = F2 + 1 := ⟨F - 1, by omega⟩
      rw [roundsD, if_pos h16, hR1, hs2'] at hF
      rw [List.drop_length, symsD] at hF
      refine Q_nextD (F, out.length, out1, V1, oa1, oc1) ⟨hV.trans (hvC.trans hV1), hf1, hF, by dsimp only; omega⟩ (by (try dsimp only); omega) ⟨rfl, trivial⟩ rfl rfl rfl
  ·
    have hfin : foundD d = out := by
      rw [← hF]
      cases F with
      | zero => rfl
      | succ F => rw [roundsD, if_neg h16]
    refine K_exit ?_
    refine Q_then_exit ?_
    refine Q_then_exit ?_
    refine Q_block_exit ?_
    refine Q_then ?_
    refine K_seq ?_
    refine K_region ?_
    refine KV (R_loadO ty25 1 rfl rfl rfl rfl (fun _ => rfl) rfl) rfl ?_
    refine KV (R_assign rfl) rfl ?_
    refine K_nil ?_
    refine Q_then ?_
    refine K_ret ?_
    refine KQ_pubrow rfl fun Hp hp hrow => ?_
    refine results_gen (rs := [.tmp 2]) (vs := [_]) rfl ⟨rfl, trivial⟩ ?_
    rw [hfin]
    exact ⟨⟨hrow.sl, hf.st.ok (by omega)⟩, hf⟩
end Go.Proofs.X

namespace Go.Proofs.X
open Go Pal Go.Proofs
attribute [local irreducible] Pal.KO Pal.KC Pal.KQ Pal.KD

theorem made_spec (n : Nat) (rk : List Int) (rv : Value) (tf ff : Nat) (tcap fcap : List Value) (tom : Nat → List Int → Int) (fim : Nat → Bool) (H : View) (hr : SI H rv rk) (hrk : ranksErr rk = 0) (hn : n ≤ 64) (hct : callable Tryz.prog tf = true) (hcf : callable Tryz.prog ff = true)
    (hto : ∀ H' (s : Nat) xs v, VLe H H' → s < rk.length → xs ∈ tups n (rk.getD s 0).toNat → SI H' v xs → Sat Tryz.prog tf ([] ++ [Value.int .i64 (s : Int), v] ++ tcap).toArray H' (fun r _ => r = .int .i64 (tom s xs)))
    (hfi : ∀ H' (q : Nat), VLe H H' → q < n → Sat Tryz.prog ff ([] ++ [Value.int .i64 (q : Int)] ++ fcap).toArray H' (fun r _ => r = .bool (fim q)))
    (htom : ∀ s xs, s < rk.length → xs ∈ tups n (rk.getD s 0).toNat → i64ok (tom s xs)) :
    Sat Tryz.prog F89 #[rv, .int .i64 (n : Int), .func (.func tf) #[] tcap.toArray, .func (.func ff) #[] fcap.toArray] H (fun r H' => ∃ v1 v2 v3, r = .agg #[v1, v2, v3] ∧ RepDt H' ⟨rk, (List.range n).map fim, (List.range rk.length).map fun (z : Nat) => (tups n (rk.getD z 0).toNat).map (tom z)⟩ v1 v2 v3) := by
  obtain ⟨ra, rcp, rfl⟩ := hr.shape
  obtain ⟨⟨hrl1, hrl2⟩, hrks⟩ := ranksErr_ok hrk
  refine enterO (n := 81) (args := [.slice ra rk.length rcp, .int .i64 (n : Int), .func (.func tf) #[] tcap.toArray, .func (.func ff) #[] fcap.toArray]) Tryz.func83 rfl rfl rfl fun w0 => ?_
  refine K_seq ?_
  refine K_region ?_
  refine KA (A_alloc z54) rfl fun b8 => ?_
  refine K_nil ?_
  refine Q_then ?_
  refine K_seq ?_
  refine K_region ?_
  refine KV (R_move rfl) rfl ?_
  refine K_call c45 rfl rfl (clone47_spec rk _ H hr (by omega)) ?_
  rintro cr V0 hv0 hcr
  obtain ⟨ca, cc, rfl⟩ := hcr.shape
  refine KV (R_build z54 pl54 rfl rfl) rfl ?_
  refine KA (A_alloc z54) rfl fun b9 => ?_
  refine K_store ty54 0 rfl rfl rfl rfl rfl rfl ?_
  refine K_nil ?_
  refine Q_then ?_
  refine K_seq ?_
  refine K_seq ?_
  refine K_region ?_
  refine KV (R_move rfl) rfl ?_
  refine KV (R_move rfl) rfl ?_
  refine K_nil ?_
  refine Q_then ?_
  refine K_block ?_
  refine K_nilrow T4 1 ?_
  refine K_loopD (G := Nat × View × Value) [10, 22, 23, 24, 25, 26, 27, 28, 29, 30, 31, 32, 33] (fun g => [(22, .int .i64 (g.1 : Int))]) (fun hl g => ((hl.set 0 (row g.2.2 T4 1 g.1 (bools ((List.range g.1).map fim)))).set 1 (blk b9 (.cells #[.slice ca rk.length cc, g.2.2, .slice none 0 0] T54 (0, 0))))) (fun g => g.2.1) (fun g => (g.1 ≤ n) ∧ (VLe V0 g.2.1) ∧ (∃ ad cp, g.2.2 = .slice ad g.1 cp)) (fun g => n - g.1) (0, V0, nilS) ⟨Nat.zero_le _, VLe.refl _, none, 0, rfl⟩ ⟨rfl, trivial⟩ (by simp only [args0, Nat.reduceAdd, del, memN, beqN, Nat.reduceBEq, cond_true, cond_false]; rfl) rfl rfl ?_
  rintro ⟨i, V, w⟩ ⟨hi, hV, hw⟩
  dsimp only at hi hV hw
  dsimp only [List.set, List.cons_append, List.nil_append]
  obtain ⟨wa, wcp, rfl⟩ := hw
  refine K_seq ?_
  refine K_region ?_
  refine KV (R_cmp rfl rfl rfl) rfl ?_
  refine K_nil ?_
  refine Q_then ?_
  refine K_seq ?_
  refine K_if rfl (fun h23 => ?_) (fun h23 => ?_)
  ·
    have hi2 : i < n := by omega
    refine K_skip ?_
    refine Q_then ?_
    refine K_seq ?_
    refine K_block ?_
    refine K_seq ?_
    refine K_region ?_
    refine KV (R_move rfl) rfl ?_
    refine KV (R_assign rfl) rfl ?_
    refine K_nil ?_
    refine Q_then ?_
    refine K_regionD (fin := true) (R := [0, 1, 2, 3, 4, 5, 6, 7, 8]) (by kernel_rfl) mixed (.cons _ (.cons_cons _ (.cons_cons _ (List.nil_sublist _)))) ?_
    refine D_val rfl rfl rfl (R_fieldAddr 1 fd54_1 rfl) ?_
    refine D_val rfl rfl rfl (R_loadO ty52 0 rfl rfl rfl rfl (fun _ => rfl) rfl) ?_
    refine D_val rfl rfl rfl (R_move rfl) ?_
    refine D_val rfl rfl rfl (R_move rfl) ?_
    refine D_callV rfl rfl hcf rfl rfl ⟨⟨1, rfl⟩, ⟨2, rfl⟩, trivial⟩ (hfi V i (hv0.trans hV) hi2) ?_
    rintro _ V1 hle1 rfl
    refine D_alloc rfl rfl rfl (A_buildSlice (vs := [.bool (fim i)]) sl52 ty4 z4 rfl rfl (by simp [Value.cells]) (by simp) rfl (by decide)) fun b30 => ?_
    refine D_append1 0 ap52 rfl rfl rfl rfl rfl rfl ⟨⟨0, rfl⟩, ⟨1, rfl⟩, trivial⟩ rfl rfl ⟨by omega, by omega⟩ fun a31 k31 hn31 => ?_
    refine D_val rfl rfl rfl (R_fieldAddr 1 fd54_1 rfl) ?_
    refine D_lastStore ty52 1 rfl rfl rfl rfl rfl rfl rfl rfl ?_
    refine Q_block ?_
    refine Q_then ?_
    refine K_region ?_
    refine KV (R_add rfl rfl (by omega)) rfl ?_
    refine KV (R_move rfl) rfl ?_
    refine K_nil ?_
    refine Q_nextD (i + 1, V1, .slice a31 (i + 1) k31) ⟨hi2, hV.trans hle1, _, _, rfl⟩ (by (try dsimp only); omega) ⟨rfl, trivial⟩ rfl (by dsimp only; rw [range_map_succ, bools_snoc]; rfl) rfl
  ·
    have hi2 : i = n := by omega
    rw [hi2]
    refine K_exit ?_
    refine Q_then_exit ?_
    refine Q_then_exit ?_
    refine Q_block_exit ?_
    refine Q_then ?_
    refine K_seq ?_
    refine K_seq ?_
    refine K_region ?_
    refine KV (R_move rfl) rfl ?_
    refine KV (R_len sl47 rfl) rfl ?_
    refine KV (R_move rfl) rfl ?_
    refine K_nil ?_
    refine Q_then ?_
    refine K_block ?_
    refine K_nilrow T25 1 ?_
    refine K_loopD (G := Nat × View × Value × List Value) [11, 12, 13, 14, 15, 16, 17, 36, 37, 38, 39, 40, 41, 42, 43, 44, 45, 46, 47, 48, 49, 50, 51, 52, 53, 54, 55, 56, 57, 58, 59, 60, 61, 62, 63, 64, 65, 66, 67, 68, 69, 70, 71, 72, 73, 74, 75, 76, 77, 78, 79] (fun g => [(36, .int .i64 (g.1 : Int))]) (fun hl g => ((hl.set 0 (row g.2.2.1 T25 1 g.1 g.2.2.2)).set 2 (blk b9 (.cells #[.slice ca rk.length cc, .slice wa n wcp, g.2.2.1] T54 (0, 0))))) (fun g => g.2.1) (fun g => (g.1 ≤ rk.length) ∧ (VLe V g.2.1) ∧ (RepL (RSI g.2.1) 1 ((List.range g.1).map (fun (z : Nat) => (tups n (rk.getD z 0).toNat).map (tom z))) g.2.2.2) ∧ (∃ ad cp, g.2.2.1 = .slice ad g.1 cp)) (fun g => rk.length - g.1) (0, V, nilS, []) ⟨Nat.zero_le _, VLe.refl _, .nil, none, 0, rfl⟩ ⟨rfl, trivial⟩ (by simp only [args0, Nat.reduceAdd, del, memN, beqN, Nat.reduceBEq, cond_true, cond_false]; rfl) rfl rfl ?_
    rintro ⟨s, U, w2, cells⟩ ⟨hs, hU, hC, hw2⟩
    dsimp only at hs hU hC hw2
    dsimp only [List.set, List.cons_append, List.nil_append]
    obtain ⟨wa2, wcp2, rfl⟩ := hw2
    refine K_seq ?_
    refine K_region ?_
    refine KV (R_cmp rfl rfl rfl) rfl ?_
    refine K_nil ?_
    refine Q_then ?_
    refine K_seq ?_
    refine K_if rfl (fun h37 => ?_) (fun h37 => ?_)
    ·
      have hs2 : s < rk.length := by omega
      obtain ⟨rb, ro, hre, hrka⟩ := (hr.mono (hv0.trans (hV.trans hU))).get hs2
      cases hre
      have hrk2 := hrks s hs2
      obtain ⟨nn, hnn⟩ : ∃ nn : Nat, rk[s] = (nn : Int) := ⟨rk[s].toNat, by omega⟩
      have hnt : rk[s].toNat = nn := by omega
      rw [hnn] at hrka
      have hgd : rk.getD s 0 = rk[s] := by simp [List.getD, hs2]
      refine K_skip ?_
      refine Q_then ?_
      refine K_seq ?_
      refine K_block ?_
      refine K_seq ?_
      refine K_region ?_
      refine KV (R_move rfl) rfl ?_
      refine KV (R_indexN sl47 ty3 rfl rfl (by omega)) rfl ?_
      refine KV (R_loadH ty3 rfl (hrka) rfl (fun _ => rfl) rfl) rfl ?_
      refine KV (R_assign rfl) rfl ?_
      refine KV (R_assign rfl) rfl ?_
      refine K_nil ?_
      refine Q_then ?_
      refine K_seq ?_
      refine K_region ?_
      refine KV (R_assign rfl) rfl ?_
      refine K_nil ?_
      refine Q_then ?_
      refine K_seq ?_
      refine K_seq ?_
      refine K_region ?_
      refine KV (R_move rfl) rfl ?_
      refine KV (R_move rfl) rfl ?_
      refine K_call c85 rfl rfl (wide_spec nn n (by omega) (by omega) U) ?_
      rintro _ U1 hU1 rfl
      obtain ⟨K, hK⟩ : ∃ K, n ^ nn = K := ⟨_, rfl⟩
      rw [hK]
      have hKl : (tups n nn).length = K := by rw [tups_len, hK]
      have hK2 : K ≤ 262144 := by rw [← hK]; exact pow_le2 (by omega) (by omega)
      refine KV (R_move rfl) rfl ?_
      refine K_nil ?_
      refine Q_then ?_
      refine K_block ?_
      refine K_nilrow T3 1 ?_
      refine K_loopD (G := Nat × View × Value) [13, 14, 15, 16, 17, 44, 45, 46, 47, 48, 49, 50, 51, 52, 53, 54, 55, 56, 57, 58, 59, 60, 61, 62, 63, 64, 65, 66, 67, 68, 69, 70, 71, 72] (fun g => [(44, .int .i64 (g.1 : Int)), (13, g.2.2)]) (fun hl g => (hl.set 0 (row g.2.2 T3 1 g.1 (ints (((tups n nn).take g.1).map (tom s)))))) (fun g => g.2.1) (fun g => (g.1 ≤ K) ∧ (VLe U1 g.2.1) ∧ (∃ ad cp, g.2.2 = .slice ad g.1 cp)) (fun g => K - g.1) (0, U1, nilS) ⟨Nat.zero_le _, VLe.refl _, none, 0, rfl⟩ ⟨rfl, rfl, trivial⟩ (by simp only [args0, Nat.reduceAdd, del, memN, beqN, Nat.reduceBEq, cond_true, cond_false]; rfl) rfl rfl ?_
      rintro ⟨p, U2, w3⟩ ⟨hp, hU2, hw3⟩
      dsimp only at hp hU2 hw3
      dsimp only [List.set, List.cons_append, List.nil_append]
      obtain ⟨xa3, xcp3, rfl⟩ := hw3
      refine K_seq ?_
      refine K_region ?_
      refine KV (R_cmp rfl rfl rfl) rfl ?_
      refine K_nil ?_
      refine Q_then ?_
      refine K_seq ?_
      refine K_if rfl (fun h45 => ?_) (fun h45 => ?_)
      ·
        have hp2 : p < K := by omega
        have hp3 : p < (tups n nn).length := by omega
        have hdg : (tups n nn)[p] = digs n nn p := digs_tups2 hp3
        have hdm : digs n nn p ∈ tups n (rk.getD s 0).toNat := by rw [hgd, hnt, ← hdg]; exact List.getElem_mem hp3
        refine K_skip ?_
        refine Q_then ?_
        refine K_seq ?_
        refine K_block ?_
        refine K_seq ?_
        refine K_region ?_
        refine KV (R_move rfl) rfl ?_
        refine KV (R_assign rfl) rfl ?_
        refine K_nil ?_
        refine Q_then ?_
        refine K_seq ?_
        refine K_region ?_
        refine KV (R_move rfl) rfl ?_
        refine KA (A_makeSlice ap25 z3 ty3 rfl rfl (by omega) (by omega)) rfl fun b48 => ?_
        refine KV (R_assign rfl) rfl ?_
        refine K_nil ?_
        refine Q_then ?_
        refine K_seq ?_
        refine K_seq ?_
        refine K_region ?_
        refine KV (R_move rfl) rfl ?_
        refine KV (R_sub rfl rfl (by omega)) rfl ?_
        refine KV (R_move rfl) rfl ?_
        refine KV (R_assign rfl) rfl ?_
        refine KV (R_assign rfl) rfl ?_
        refine K_nil ?_
        refine Q_then ?_
        refine K_block ?_
        refine K_loopD (G := Nat) [16, 17, 52, 53, 54, 55, 56, 57, 58, 59, 60, 61, 62, 63, 64] (fun g => [(16, .int .i64 ((nn : Int) - 1 - (g : Int))), (17, .int .i64 ((p / n ^ g : Nat) : Int))]) (fun hl g => (hl.set 0 (blk b48 (.cells (digC n nn p g) T3 (0, 0))))) (fun g => U2) (fun g => (g ≤ nn)) (fun g => nn - g) (0 : Nat) (Nat.zero_le _) ⟨congrArg (fun z => some (Value.int .i64 z)) (by omega), congrArg (fun z => some (Value.int .i64 z)) (by simp), trivial⟩ (by simp only [args0, Nat.reduceAdd, del, memN, beqN, Nat.reduceBEq, cond_true, cond_false]; rfl) (by rw [← digC_made]; rfl) rfl ?_
        rintro r hr1
        try dsimp only at hr1
        dsimp only [List.set, List.cons_append, List.nil_append]
        refine K_seq ?_
        refine K_seq ?_
        refine K_region ?_
        refine KV (R_move rfl) rfl ?_
        refine KV (R_cmp rfl rfl rfl) rfl ?_
        refine K_nil ?_
        refine Q_then ?_
        refine K_if rfl (fun h53 => ?_) (fun h53 => ?_)
        ·
          have hr2 : r < nn := by omega
          have hn0 : n ≠ 0 := by intro e; rw [e, Nat.zero_pow (by omega)] at hK; omega
          have hpr : p / n ^ r ≤ p := Nat.div_le_self _ _
          have hquo := quo_step (n := n) (p := p) (r := r) (by omega)
          refine K_skip ?_
          refine Q_then ?_
          refine K_seq ?_
          refine K_block ?_
          refine K_region ?_
          refine KV (R_move rfl) rfl ?_
          refine KV (R_move rfl) rfl ?_
          refine KV (R_move rfl) rfl ?_
          refine KV (R_move rfl) rfl ?_
          refine KV (R_rem rfl rfl (by omega)) rfl ?_
          refine KV (R_index sl25 ty3 rfl rfl ⟨by omega, by omega⟩) rfl ?_
          refine K_storeE ty3 0 rfl rfl rfl rfl (by rw [digC_size]; show _ + 1 ≤ _; omega) rfl (digC_put hr2 (by omega)) ?_
          refine K_nil ?_
          refine Q_block ?_
          refine Q_then ?_
          refine K_regionD (fin := false) (R := [0, 1, 2, 3, 4, 5, 6]) (by kernel_rfl) mixed (.cons_cons _ (.cons_cons _ (.cons_cons _ (.cons_cons _ (.cons_cons _ (.cons_cons _ (List.nil_sublist _))))))) ?_
          refine D_val rfl rfl rfl (R_move rfl) ?_
          refine D_val rfl rfl rfl (R_sub rfl rfl (by omega)) ?_
          refine D_val rfl rfl rfl (R_move rfl) ?_
          refine D_val rfl rfl rfl (R_move rfl) ?_
          refine D_val rfl rfl rfl (R_quo rfl rfl (by omega) hquo) ?_
          refine D_val rfl rfl rfl (R_assign rfl) ?_
          refine D_val rfl rfl rfl (R_assign rfl) ?_
          refine D_done ?_
          refine Q_nextD ((r + 1)) hr2 (by (try dsimp only); omega) ⟨congrArg (fun z => some (Value.int .i64 z)) (by omega), rfl, trivial⟩ rfl rfl rfl
        ·
          have hr2 : r = nn := by omega
          rw [hr2, digC_all]
          refine K_exit ?_
          refine Q_then_exit ?_
          refine Q_then_exit ?_
          refine Q_block_exit ?_
          refine Q_then ?_
          refine KC_pubF fun U3 hU3 hb48 => ?_
          have hSI : SI U3 (slc nn b48) (digs n nn p) := ⟨by rw [digs_len]; exact ⟨_, _, rfl, .inr ⟨b48, 0, rfl, At.of hb48⟩⟩, fun x hx => by have := (tups_item hdm).2 x (by exact hx); simp only [i64ok]; omega⟩
          refine K_region ?_
          refine KV (R_move rfl) rfl ?_
          refine KV (R_move rfl) rfl ?_
          refine KV (R_move rfl) rfl ?_
          refine KV (R_move rfl) rfl ?_
          refine K_callV hct rfl rfl rfl (hto U3 s (digs n nn p) _ (hv0.trans (hV.trans (hU.trans (hU1.trans (hU2.trans hU3))))) hs2 hdm hSI) ?_
          rintro _ U4 hU4 rfl
          refine KA (A_buildSlice (vs := [.int .i64 (tom s (digs n nn p))]) sl25 ty3 z3 rfl rfl (by simp [Value.cells]) (by simp) rfl (by decide)) rfl fun b70 => ?_
          refine K_append1 0 ap25 rfl rfl rfl rfl rfl rfl ⟨by omega, by omega⟩ rfl fun a71 k71 hn71 => ?_
          refine KV (R_assign rfl) rfl ?_
          refine K_nil ?_
          refine Q_block ?_
          refine Q_then ?_
          refine K_region ?_
          refine KV (R_add rfl rfl (by omega)) rfl ?_
          refine KV (R_move rfl) rfl ?_
          refine K_nil ?_
          refine Q_nextD (p + 1, U4, .slice a71 (p + 1) k71) ⟨hp2, hU2.trans (hU3.trans hU4), _, _, rfl⟩ (by (try dsimp only); omega) ⟨rfl, rfl, trivial⟩ rfl (by dsimp only; rw [take_ints_snoc hp3, hdg]; rfl) rfl
      ·
        have hp3 : p = K := by omega
        refine K_exit ?_
        refine Q_then_exit ?_
        refine Q_then_exit ?_
        refine Q_block_exit ?_
        refine Q_then ?_
        have hrl3 : (tups n (rk.getD s 0).toNat).map (tom s) = ((tups n nn).take p).map (tom s) := by rw [hgd, hnt, hp3, ← hKl, List.take_length]
        have hrln : (((tups n nn).take p).map (tom s)).length = p := by rw [List.length_map, List.length_take]; omega
        refine KC_pubrow rfl fun Wr hWr hrow => ?_
        have hrowI : SI Wr (.slice xa3 ((tups n (rk.getD s 0).toNat).map (tom s)).length xcp3) ((tups n (rk.getD s 0).toNat).map (tom s)) := by
          rw [hrl3]
          refine ⟨by rw [hrln]; exact hrow.sl, ?_⟩
          intro x hx
          obtain ⟨y, hy, rfl⟩ := List.mem_map.1 hx
          exact htom s y hs2 (by rw [hgd, hnt]; exact List.mem_of_mem_take hy)
        rw [hrl3, hrln] at hrowI
        refine K_region ?_
        refine KV (R_fieldAddr 2 fd54_2 rfl) rfl ?_
        refine KV (R_loadO ty44 2 rfl rfl rfl rfl (fun _ => rfl) rfl) rfl ?_
        refine KV (R_move rfl) rfl ?_
        refine KA (A_buildSlice (vs := [.slice xa3 p xcp3]) sl44 ty25 z25 rfl rfl (by simp [Value.cells]) (by simp) rfl (by decide)) rfl fun b76 => ?_
        refine K_append1 0 ap44 rfl rfl rfl rfl rfl rfl ⟨by omega, by omega⟩ rfl fun a77 k77 hn77 => ?_
        refine KV (R_fieldAddr 2 fd54_2 rfl) rfl ?_
        refine K_store ty44 2 rfl rfl rfl rfl rfl rfl ?_
        refine K_nil ?_
        refine Q_block ?_
        refine Q_then ?_
        refine K_region ?_
        refine KV (R_add rfl rfl (by omega)) rfl ?_
        refine KV (R_move rfl) rfl ?_
        refine K_nil ?_
        refine Q_nextD (s + 1, Wr, .slice a77 (s + 1) k77, cells ++ [.slice xa3 p xcp3]) ⟨hs2, hU.trans (hU1.trans (hU2.trans hWr)), by rw [range_map_succ]; exact (hC.impSI (hU1.trans (hU2.trans hWr))).snoc ⟨_, rfl, by rw [hrl3]; exact hrowI⟩ rfl, _, _, rfl⟩ (by (try dsimp only); omega) ⟨rfl, trivial⟩ rfl rfl rfl
    ·
      have hs2 : s = rk.length := by omega
      subst hs2
      refine K_exit ?_
      refine Q_then_exit ?_
      refine Q_then_exit ?_
      refine Q_block_exit ?_
      refine Q_then ?_
      refine K_seq ?_
      refine K_region ?_
      refine KV (R_loadO ty54 2 rfl rfl rfl rfl (fun e => by cases e) rfl) rfl ?_
      refine K_store ty54 3 rfl rfl rfl rfl rfl rfl ?_
      refine K_nil ?_
      refine Q_then ?_
      refine K_ret ?_
      refine KQ_pubrow rfl fun HpA hpA hrowA => ?_
      refine KQ_pubrow rfl fun HpB hpB hrowB => ?_
      refine results_gen (rs := [.cell 8 37]) (vs := [_]) rfl ⟨⟨_, _, _, _, _, _, 1, rfl, rfl, ty54, (fun e => by cases e), rfl, rfl⟩, trivial⟩ ?_
      refine ⟨_, _, _, rfl, hcr.mono (hV.trans (hU.trans (hpA.trans hpB))), ?_, cells, ?_, hC.impSI (hpA.trans hpB)⟩
      · show SlAt _ _ ((List.range n).map fim).length _
        rw [List.length_map, List.length_range]
        exact hrowB.sl
      · have := hrowA.sl.mono hpB
        simpa using this
end Go.Proofs.X

namespace Go.Proofs.X
open Go Pal Go.Proofs
attribute [local irreducible] Pal.KO Pal.KC Pal.KQ Pal.KD
theorem c70 : callable Tryz.prog F70 = true := by kernel_rfl
theorem c71 : callable Tryz.prog F71 = true := by kernel_rfl
theorem c89 : callable Tryz.prog F89 = true := by kernel_rfl
theorem c90 : callable Tryz.prog F90 = true := by kernel_rfl
theorem c92 : callable Tryz.prog F92 = true := by kernel_rfl
theorem some1_spec (d : Dt) (hok : DtOk d) (out : List Int) (s : Nat) (xs : List Int) (b3 b5 b2 bas : Nat) (v ov w1 w2 w3 : Value) (H : View) (hd : RepDt H d w1 w2 w3) (hA2 : At H b2 0 [w1, w2, w3]) (hA3 : At H b3 0 [ov]) (hov : SI H ov out) (hA5 : At H b5 0 [slc d.acc.length bas]) (has : At H bas 0 (asArr d.acc.length out).toList)
    (hv : SI H v xs) (hs : s < d.ranks.length) (hx : xs ∈ tups out.length (d.ranks.getD s 0).toNat) (hst : States d out) (hol : out.length ≤ 64) :
    Sat Tryz.prog F90 #[.int .i64 (s : Int), v, ptr b3, ptr b5, ptr b2] H (fun r _ => r = .int .i64 (asD out (atM d (s : Int) (pickD out xs)))) := by
  obtain ⟨xa, xcp, rfl⟩ := hv.shape
  obtain ⟨oa, oc, rfl⟩ := hov.shape
  obtain ⟨hxl, hxm⟩ := tups_item hx
  have hrks := (ranksErr_ok hok.rk).2 s hs
  have hgd : d.ranks.getD s 0 = d.ranks[s] := by simp [List.getD, hs]
  obtain ⟨ua1, uc1x, rfl⟩ := hd.r.shape
  obtain ⟨ua2, uc2x, rfl⟩ := hd.a.shape
  obtain ⟨ua3, uc3x, rfl⟩ := hd.t.shape
  refine enterO (n := 32) (args := [.int .i64 (s : Int), .slice xa xs.length xcp, ptr b3, ptr b5, ptr b2]) Tryz.func84 rfl rfl rfl fun w0 => ?_
  refine K_seq ?_
  refine K_region ?_
  refine KV (R_assign rfl) rfl ?_
  refine K_nil ?_
  refine Q_then ?_
  refine K_seq ?_
  refine K_region ?_
  refine KV (R_assign rfl) rfl ?_
  refine K_nil ?_
  refine Q_then ?_
  refine K_seq ?_
  refine K_seq ?_
  refine K_region ?_
  refine KV (R_move rfl) rfl ?_
  refine KV (R_len sl25 rfl) rfl ?_
  refine KV (R_move rfl) rfl ?_
  refine K_nil ?_
  refine Q_then ?_
  refine K_block ?_
  refine K_nilrow T3 1 ?_
  refine K_loopD (G := Nat × Value) [8, 10, 13, 14, 15, 16, 17, 18, 19, 20, 21, 22, 23, 24] (fun g => [(13, .int .i64 (g.1 : Int)), (8, g.2)]) (fun hl g => (hl.set 0 (row g.2 T3 1 g.1 (ints (pickD out (xs.take g.1)))))) (fun g => H) (fun g => (g.1 ≤ xs.length) ∧ (∃ ad cp, g.2 = .slice ad g.1 cp)) (fun g => xs.length - g.1) (0, nilS) ⟨Nat.zero_le _, none, 0, rfl⟩ ⟨rfl, rfl, trivial⟩ (by simp only [args0, Nat.reduceAdd, del, memN, beqN, Nat.reduceBEq, cond_true, cond_false]; rfl) rfl rfl ?_
  rintro ⟨i, w⟩ ⟨hi, hw⟩
  dsimp only at hi hw
  dsimp only [List.set, List.cons_append, List.nil_append]
  obtain ⟨wa, wcp, rfl⟩ := hw
  refine K_seq ?_
  refine K_region ?_
  refine KV (R_cmp rfl rfl rfl) rfl ?_
  refine K_nil ?_
  refine Q_then ?_
  refine K_seq ?_
  refine K_if rfl (fun h14 => ?_) (fun h14 => ?_)
  ·
    have hi2 : i < xs.length := by omega
    obtain ⟨tb, to_, hte, hta⟩ := hv.get hi2
    cases hte
    have hxi := hxm _ (List.getElem_mem hi2)
    have hxo : xs[i].toNat < out.length := by omega
    obtain ⟨ob, oo, hoe, hoa⟩ := hov.get hxo
    cases hoe
    refine K_skip ?_
    refine Q_then ?_
    refine K_seq ?_
    refine K_block ?_
    refine K_seq ?_
    refine K_region ?_
    refine KV (R_indexN sl25 ty3 rfl rfl (by omega)) rfl ?_
    refine KV (R_loadH ty3 rfl (hta) rfl (fun _ => rfl) rfl) rfl ?_
    refine KV (R_assign rfl) rfl ?_
    refine K_nil ?_
    refine Q_then ?_
    refine K_region ?_
    refine KV (R_move rfl) rfl ?_
    refine KV (R_loadH ty25 rfl (hA3) rfl (fun _ => rfl) rfl) rfl ?_
    refine KV (R_move rfl) rfl ?_
    refine KV (R_index sl25 ty3 rfl rfl hxi) rfl ?_
    refine KV (R_loadH ty3 rfl (hoa) rfl (fun _ => rfl) rfl) rfl ?_
    refine KA (A_buildSlice (vs := [.int .i64 out[xs[i].toNat]]) sl25 ty3 z3 rfl rfl (by simp [Value.cells]) (by simp) rfl (by decide)) rfl fun b22 => ?_
    refine K_append1 0 ap25 rfl rfl rfl rfl rfl rfl ⟨by omega, by omega⟩ rfl fun a23 k23 hn23 => ?_
    refine KV (R_assign rfl) rfl ?_
    refine K_nil ?_
    refine Q_block ?_
    refine Q_then ?_
    refine K_region ?_
    refine KV (R_add rfl rfl (by omega)) rfl ?_
    refine KV (R_move rfl) rfl ?_
    refine K_nil ?_
    refine Q_nextD (i + 1, .slice a23 (i + 1) k23) ⟨hi2, _, _, rfl⟩ (by (try dsimp only); omega) ⟨rfl, rfl, trivial⟩ rfl (by dsimp only; rw [pickD_take hi2 hxi, ints_snoc]; rfl) rfl
  ·
    have hi2 : i = xs.length := by omega
    rw [hi2, List.take_length]
    refine K_exit ?_
    refine Q_then_exit ?_
    refine Q_then_exit ?_
    refine Q_block_exit ?_
    refine Q_then ?_
    refine K_seq ?_
    refine KC_pubrow rfl fun U hU hrow => ?_
    have hpk := pick_ok hst hxm
    have hpl := pickD_len out xs
    have hsp : SI U (.slice wa xs.length wcp) (pickD out xs) := ⟨by rw [pickD_len]; exact hrow.sl, fun x hx => by have := hpk x hx; have := hok.n; simp only [i64ok]; omega⟩
    have hlk : ((pickD out xs).length : Int) = d.ranks.getD ((s : Nat) : Int).toNat 0 := by rw [hpl, hxl, Int.toNat_natCast, hgd]; omega
    have hm := (hok.at_ok (s := (s : Int)) (l := pickD out xs) ⟨by omega, by omega⟩ hlk hpk).2.2
    have hAt : At U bas (0 + (atM d (s : Int) (pickD out xs)).toNat * 1) [.int .i64 (asD out (atM d (s : Int) (pickD out xs)))] := by
      rw [Nat.mul_one]
      exact (has.mono hU).one (by rw [Array.getElem?_toList]; exact asArr_get hm rfl)
    refine K_regionD (fin := false) (R := [0, 1, 2, 3, 4, 5, 6, 7]) (by kernel_rfl) mixed (List.nil_sublist _) ?_
    refine D_val rfl rfl rfl (R_loadH ty25 rfl (hA5.mono hU) rfl (fun _ => rfl) rfl) ?_
    refine D_val rfl rfl rfl (R_loadH ty54 rfl (hA2.mono hU) rfl (fun e => by cases e) rfl) ?_
    refine D_val rfl rfl rfl (R_move rfl) ?_
    refine D_val rfl rfl rfl (R_move rfl) ?_
    refine D_call rfl rfl c91 rfl trivial (at_spec d hok (s : Int) (pickD out xs) _ _ _ _ U (hd.mono hU) hsp ⟨by omega, by omega⟩ hlk hpk) ?_
    rintro _ V1 hle1 rfl
    refine D_val rfl rfl rfl (R_index sl25 ty3 rfl rfl hm) ?_
    refine D_val rfl rfl rfl (R_loadH ty3 rfl (hAt.mono hle1) rfl (fun _ => rfl) rfl) ?_
    refine D_val rfl rfl rfl (R_assign rfl) ?_
    refine D_done ?_
    refine Q_then ?_
    refine K_ret ?_
    refine results_gen (rs := [.tmp 7]) (vs := [_]) rfl ⟨rfl, trivial⟩ ?_
    rfl

theorem some2_spec (d : Dt) (out : List Int) (q : Nat) (b2 b3 : Nat) (ov w1 w2 w3 : Value) (H : View) (hd : RepDt H d w1 w2 w3) (hA2 : At H b2 0 [w1, w2, w3]) (hA3 : At H b3 0 [ov]) (hov : SI H ov out) (hq : q < out.length) (hst : States d out) :
    Sat Tryz.prog F92 #[.int .i64 (q : Int), ptr b2, ptr b3] H (fun r _ => r = .bool (d.acc.getD (out.getD q 0).toNat false)) := by
  obtain ⟨oa, oc, rfl⟩ := hov.shape
  obtain ⟨ua1, uc1x, rfl⟩ := hd.r.shape
  obtain ⟨ua2, uc2x, rfl⟩ := hd.a.shape
  obtain ⟨ua3, uc3x, rfl⟩ := hd.t.shape
  have hoq := hst _ (List.getElem_mem hq)
  have hol : out[q].toNat < d.acc.length := by omega
  obtain ⟨ob, oo, hoe, hoa⟩ := hov.get hq
  cases hoe
  obtain ⟨tb, to_, hte, hta⟩ := hd.a.get hol
  cases hte
  have hA21 := hA2.one (j := 1) rfl
  refine enterO (n := 13) (args := [.int .i64 (q : Int), ptr b2, ptr b3]) Tryz.func86 rfl rfl rfl fun w0 => ?_
  refine K_seq ?_
  refine K_region ?_
  refine KV (R_assign rfl) rfl ?_
  refine K_nil ?_
  refine Q_then ?_
  refine K_seq ?_
  refine K_regionD (fin := false) (R := [0, 1, 2, 3, 4, 5, 6, 7, 8]) (by kernel_rfl) mixed (List.nil_sublist _) ?_
  refine D_val rfl rfl rfl (R_fieldAddr 1 fd54_1 rfl) ?_
  refine D_val rfl rfl rfl (R_loadH ty52 rfl (hA21) rfl (fun _ => rfl) rfl) ?_
  refine D_val rfl rfl rfl (R_loadH ty25 rfl (hA3) rfl (fun _ => rfl) rfl) ?_
  refine D_val rfl rfl rfl (R_move rfl) ?_
  refine D_val rfl rfl rfl (R_index sl25 ty3 rfl rfl ⟨by omega, by omega⟩) ?_
  refine D_val rfl rfl rfl (R_loadH ty3 rfl (hoa) rfl (fun _ => rfl) rfl) ?_
  refine D_val rfl rfl rfl (R_index sl52 ty4 rfl rfl hoq) ?_
  refine D_val rfl rfl rfl (R_loadH ty4 rfl (hta) rfl (fun _ => rfl) rfl) ?_
  refine D_val rfl rfl rfl (R_assign rfl) ?_
  refine D_done ?_
  refine Q_then ?_
  refine K_ret ?_
  refine results_gen (rs := [.tmp 4]) (vs := [_]) rfl ⟨rfl, trivial⟩ ?_
  refine congrArg Value.bool ?_
  simp [List.getD, hq, hol]

theorem some_spec (d : Dt) (hok : DtOk d) (hn64 : d.acc.length ≤ 64) (out : List Int) (hf : FoundOk d out) (w1 w2 w3 ov : Value) (H : View) (hd : RepDt H d w1 w2 w3) (hov : SI H ov out) :
    Sat Tryz.prog F70 #[.agg #[w1, w2, w3], ov] H (fun r H' => ∃ u1 u2 u3, r = .agg #[u1, u2, u3] ∧ RepDt H' ⟨d.ranks, (List.range out.length).map fun q => d.acc.getD (out.getD q 0).toNat false, (List.range d.ranks.length).map fun z => (tups out.length (d.ranks.getD z 0).toNat).map fun xs => asD out (atM d (z : Int) (pickD out xs))⟩ u1 u2 u3) := by
  obtain ⟨oa, oc, rfl⟩ := hov.shape
  have hol := hf.len
  have hn := hok.n
  obtain ⟨ua1, uc1x, rfl⟩ := hd.r.shape
  obtain ⟨ua2, uc2x, rfl⟩ := hd.a.shape
  obtain ⟨ua3, uc3x, rfl⟩ := hd.t.shape
  refine enterO (n := 31) (args := [.agg #[.slice ua1 d.ranks.length uc1x, .slice ua2 d.acc.length uc2x, .slice ua3 d.to.length uc3x], .slice oa out.length oc]) Tryz.func35 rfl rfl rfl fun w0 => ?_
  refine K_seq ?_
  refine K_region ?_
  refine KA (A_box rfl) rfl fun b2 => ?_
  refine KA (A_box rfl) rfl fun b3 => ?_
  refine KA (A_alloc z54) rfl fun b4 => ?_
  refine K_nil ?_
  refine Q_then ?_
  refine K_seq ?_
  refine K_region ?_
  refine KV (R_fieldAddr 1 fd54_1 rfl) rfl ?_
  refine KV (R_loadO ty52 2 rfl rfl rfl rfl (fun _ => rfl) rfl) rfl ?_
  refine KV (R_len sl52 rfl) rfl ?_
  refine KA (A_makeSlice ap25 z3 ty3 rfl rfl (by omega) (by omega)) rfl fun b11 => ?_
  refine KA (A_alloc z25) rfl fun b5 => ?_
  refine K_store ty25 0 rfl rfl rfl rfl rfl rfl ?_
  refine K_nil ?_
  refine Q_then ?_
  refine K_seq ?_
  refine K_seq ?_
  refine K_region ?_
  refine KV (R_loadO ty25 3 rfl rfl rfl rfl (fun _ => rfl) rfl) rfl ?_
  refine KV (R_len sl25 rfl) rfl ?_
  refine KV (R_move rfl) rfl ?_
  refine K_nil ?_
  refine Q_then ?_
  refine K_block ?_
  refine K_loopD (G := Nat) [6, 7, 14, 15, 16, 17, 18, 19, 20, 21, 22, 23] (fun g => [(14, .int .i64 (g : Int))]) (fun hl g => (hl.set 1 (blk b11 (.cells (asArr d.acc.length (out.take g)) T3 (0, 0))))) (fun g => H) (fun g => (g ≤ out.length)) (fun g => out.length - g) (0 : Nat) (Nat.zero_le _) ⟨rfl, trivial⟩ (by simp only [args0, Nat.reduceAdd, del, memN, beqN, Nat.reduceBEq, cond_true, cond_false]; rfl) (by simp only [List.take_zero]; rw [← made_ints]; rfl) rfl ?_
  rintro j hj
  try dsimp only at hj
  dsimp only [List.set, List.cons_append, List.nil_append]
  refine K_seq ?_
  refine K_region ?_
  refine KV (R_cmp rfl rfl rfl) rfl ?_
  refine K_nil ?_
  refine Q_then ?_
  refine K_seq ?_
  refine K_if rfl (fun h15 => ?_) (fun h15 => ?_)
  ·
    have hj2 : j < out.length := by omega
    obtain ⟨tb, to_, hte, hta⟩ := hov.get hj2
    cases hte
    have hq := hf.st _ (List.getElem_mem hj2)
    refine K_skip ?_
    refine Q_then ?_
    refine K_seq ?_
    refine K_block ?_
    refine K_seq ?_
    refine K_region ?_
    refine KV (R_move rfl) rfl ?_
    refine KV (R_indexN sl25 ty3 rfl rfl (by omega)) rfl ?_
    refine KV (R_loadH ty3 rfl (hta) rfl (fun _ => rfl) rfl) rfl ?_
    refine KV (R_assign rfl) rfl ?_
    refine KV (R_assign rfl) rfl ?_
    refine K_nil ?_
    refine Q_then ?_
    refine K_region ?_
    refine KV (R_loadO ty25 0 rfl rfl rfl rfl (fun _ => rfl) rfl) rfl ?_
    refine KV (R_move rfl) rfl ?_
    refine KV (R_move rfl) rfl ?_
    refine KV (R_index sl25 ty3 rfl rfl hq) rfl ?_
    refine K_storeE ty3 1 rfl rfl rfl rfl (by rw [asArr_size]; show _ + 1 ≤ _; omega) rfl (asArr_step hf.nd hj2 hq (by omega)) ?_
    refine K_nil ?_
    refine Q_block ?_
    refine Q_then ?_
    refine K_region ?_
    refine KV (R_add rfl rfl (by omega)) rfl ?_
    refine KV (R_move rfl) rfl ?_
    refine K_nil ?_
    refine Q_nextD ((j + 1)) hj2 (by (try dsimp only); omega) ⟨rfl, trivial⟩ rfl rfl rfl
  ·
    have hj2 : j = out.length := by omega
    rw [hj2, List.take_length]
    refine K_exit ?_
    refine Q_then_exit ?_
    refine Q_then_exit ?_
    refine Q_block_exit ?_
    refine Q_then ?_
    refine K_seq ?_
    refine KC_pubF fun Va hva hb5 => ?_
    refine KC_pubF fun Vb hvb hb11 => ?_
    refine KC_front 1 rfl ?_
    refine KC_pubF fun Vc hvc hb3 => ?_
    refine KC_front 1 rfl ?_
    refine KC_pubF fun U hvd hb2 => ?_
    dsimp only [List.eraseIdx]
    have hU := hva.trans (hvb.trans (hvc.trans hvd))
    have hA2 := At.of hb2
    have hA3 := (At.of hb3).mono hvd
    have hA5 := (At.of hb5).mono (hvb.trans (hvc.trans hvd))
    have has := (At.of hb11).mono (hvc.trans hvd)
    have hto : ∀ H' (s : Nat) xs v, VLe U H' → s < d.ranks.length → xs ∈ tups out.length (d.ranks.getD s 0).toNat → SI H' v xs → Sat Tryz.prog F90 ([] ++ [Value.int .i64 (s : Int), v] ++ [ptr b3, ptr b5, ptr b2]).toArray H' (fun r _ => r = .int .i64 (asD out (atM d (s : Int) (pickD out xs)))) := fun H' s xs v hle hs hxs hsi => some1_spec d hok out s xs b3 b5 b2 b11 v _ _ _ _ H' (hd.mono (hU.trans hle)) (hA2.mono hle) (hA3.mono hle) (hov.mono (hU.trans hle)) (hA5.mono hle) (has.mono hle) hsi hs hxs hf.st (by omega)
    have hfi : ∀ H' (q : Nat), VLe U H' → q < out.length → Sat Tryz.prog F92 ([] ++ [Value.int .i64 (q : Int)] ++ [ptr b2, ptr b3]).toArray H' (fun r _ => r = .bool (d.acc.getD (out.getD q 0).toNat false)) := fun H' q hle hq => some2_spec d out q b2 b3 _ _ _ _ H' (hd.mono (hU.trans hle)) (hA2.mono hle) (hA3.mono hle) (hov.mono (hU.trans hle)) hq hf.st
    refine K_region ?_
    refine KV (R_fieldAddr 0 fd54_0 rfl) rfl ?_
    refine KV (R_loadH ty47 rfl (hA2.one (j := 0) rfl) rfl (fun _ => rfl) rfl) rfl ?_
    refine KV (R_loadH ty25 rfl (hA3) rfl (fun _ => rfl) rfl) rfl ?_
    refine KV (R_len sl25 rfl) rfl ?_
    refine KV (R_makeFunc rfl rfl) rfl ?_
    refine KV (R_makeFunc rfl rfl) rfl ?_
    refine K_call c89 rfl rfl (made_spec out.length d.ranks _ F90 F92 [ptr b3, ptr b5, ptr b2] [ptr b2, ptr b3] (fun z xs => asD out (atM d (z : Int) (pickD out xs))) (fun q => d.acc.getD (out.getD q 0).toNat false) U (hd.r.mono hU) hok.rk (by omega) c90 c92 hto hfi (fun s xs _ _ => asD_ok (by omega))) ?_
    rintro _ V5 hv5 ⟨u1, u2, u3, rfl, hX⟩
    obtain ⟨xa1, xc1, rfl⟩ := hX.r.shape
    obtain ⟨xa2, xc2, rfl⟩ := hX.a.shape
    obtain ⟨xa3, xc3, rfl⟩ := hX.t.shape
    refine K_store ty54 0 rfl rfl rfl rfl rfl rfl ?_
    refine K_nil ?_
    refine Q_then ?_
    refine K_ret ?_
    refine results_gen (rs := [.cell 4 37]) (vs := [_]) rfl ⟨⟨_, _, _, _, _, _, 0, rfl, rfl, ty54, (fun e => by cases e), rfl, rfl⟩, trivial⟩ ?_
    exact ⟨_, _, _, rfl, hX⟩

theorem trim_spec (d : Dt) (hb : d.ranks.length ≤ 1048576 ∧ d.acc.length ≤ 1048576 ∧ d.to.length ≤ 1048576 ∧ ∀ x ∈ d.to, x.length ≤ 1048576) (hn64 : d.acc.length ≤ 64) (w1 w2 w3 : Value) (H : View) (hd : RepDt H d w1 w2 w3) :
    Sat Tryz.prog F33 #[.agg #[w1, w2, w3]] H (fun r H' => ∃ u1 u2 u3, r = .tuple #[.agg #[u1, u2, u3], .int .i64 (dtErr d)] ∧ RepDt H' (if dtErr d ≠ 0 then ⟨[], [], []⟩ else trimD d) u1 u2 u3) := by
  obtain ⟨ua1, uc1x, rfl⟩ := hd.r.shape
  obtain ⟨ua2, uc2x, rfl⟩ := hd.a.shape
  obtain ⟨ua3, uc3x, rfl⟩ := hd.t.shape
  refine enterO (n := 15) (args := [.agg #[.slice ua1 d.ranks.length uc1x, .slice ua2 d.acc.length uc2x, .slice ua3 d.to.length uc3x]]) Tryz.func12 rfl rfl rfl fun w0 => ?_
  refine K_seq ?_
  refine K_region ?_
  refine KA (A_box rfl) rfl fun b1 => ?_
  refine KA (A_alloc z54) rfl fun b2 => ?_
  refine KV (R_assign rfl) rfl ?_
  refine K_nil ?_
  refine Q_then ?_
  refine K_seq ?_
  refine K_seq ?_
  refine K_region ?_
  refine KV (R_loadO ty54 1 rfl rfl rfl rfl (fun e => by cases e) rfl) rfl ?_
  refine K_call c63 rfl rfl (dcheck_spec d _ _ _ H hd hb) ?_
  rintro _ V1 hv1 rfl
  refine KV (R_assign rfl) rfl ?_
  refine K_nil ?_
  refine Q_then ?_
  refine K_seq ?_
  refine K_region ?_
  refine KV (R_move rfl) rfl ?_
  refine KV (R_cmp rfl rfl rfl) rfl ?_
  refine K_nil ?_
  refine Q_then ?_
  refine K_if rfl (fun h8 => ?_) (fun h8 => ?_)
  ·
    refine K_seq ?_
    refine K_region ?_
    refine KV (R_build z54 pl54 rfl rfl) rfl ?_
    refine KV (R_move rfl) rfl ?_
    refine K_store ty54 0 rfl rfl rfl rfl rfl rfl ?_
    refine KV (R_assign rfl) rfl ?_
    refine K_nil ?_
    refine Q_then ?_
    refine K_ret ?_
    refine Q_then_ret ?_
    refine results_gen (rs := [.cell 2 37, .tmp 3]) (vs := [_, _]) rfl ⟨⟨_, _, _, _, _, _, 0, rfl, rfl, ty54, (fun e => by cases e), rfl, rfl⟩, ⟨rfl, trivial⟩⟩ ?_
    rw [if_pos (by omega)]
    exact ⟨_, _, _, rfl, RepDt.nil _⟩
  ·
    have hd0 : dtErr d = 0 := by omega
    have hok := DtOk.of hd0
    refine K_skip ?_
    refine Q_then ?_
    refine K_seq ?_
    refine K_regionD (fin := false) (R := [0, 1, 2, 3, 4, 5]) (by kernel_rfl) mixed (.cons _ (.cons_cons _ (List.nil_sublist _))) ?_
    refine D_val rfl rfl rfl (R_loadO ty54 0 rfl rfl rfl rfl (fun e => by cases e) rfl) ?_
    refine D_val rfl rfl rfl (R_loadO ty54 0 rfl rfl rfl rfl (fun e => by cases e) rfl) ?_
    refine D_call rfl rfl c71 rfl ⟨⟨1, rfl⟩, trivial⟩ (found_spec d hok hn64 _ _ _ V1 (hd.mono hv1)) ?_
    rintro ov V2 hv2 ⟨hov, hfo⟩
    obtain ⟨oa, oc, rfl⟩ := hov.shape
    refine D_call rfl rfl c70 rfl ⟨⟨1, rfl⟩, trivial⟩ (some_spec d hok hn64 (foundD d) hfo _ _ _ _ V2 (hd.mono (hv1.trans hv2)) hov) ?_
    rintro _ V3 hv3 ⟨u1, u2, u3, rfl, hX⟩
    obtain ⟨xa1, xc1, rfl⟩ := hX.r.shape
    obtain ⟨xa2, xc2, rfl⟩ := hX.a.shape
    obtain ⟨xa3, xc3, rfl⟩ := hX.t.shape
    refine D_store ty54 0 rfl rfl rfl rfl rfl ⟨⟨0, rfl⟩, trivial⟩ rfl rfl rfl ?_
    refine D_val rfl rfl rfl (R_assign rfl) ?_
    refine D_done ?_
    refine Q_then ?_
    refine K_ret ?_
    refine results_gen (rs := [.cell 2 37, .tmp 3]) (vs := [_, _]) rfl ⟨⟨_, _, _, _, _, _, 0, rfl, rfl, ty54, (fun e => by cases e), rfl, rfl⟩, ⟨rfl, trivial⟩⟩ ?_
    rw [if_neg (by omega), hd0, trim_eq]
    exact ⟨_, _, _, rfl, hX⟩
end Go.Proofs.X

namespace Go.Proofs.X
open Go Pal Go.Proofs
attribute [local irreducible] Pal.KO Pal.KC Pal.KQ Pal.KD

theorem visitV_spec (n k gf : Nat) (cap : List Value) (T : List (List Int)) (E : List (List Int) → View → HL → Prop) (H0 : View) (hV : VisitV Tryz.prog gf cap H0 T E) (hcal : callable Tryz.prog gf = true) (hk : k ≤ 1099511627776) (hn : n ≤ 1099511627776)
    (b1 b2 b3 b4 : Nat) : ∀ m xs pre a len cp H p, xs.length = len → VLe H0 H → len + m = n → SI H (.slice a len cp) xs → len ≤ cp → E pre H p → (pre ++ ext k m xs) <+: T →
    At H b1 0 [.int .i64 (n : Int)] → At H b2 0 [.func (.func gf) #[] cap.toArray] → At H b3 0 [.int .i64 (k : Int)] → At H b4 0 [.func (.func F83) #[] #[ptr b1, ptr b2, ptr b3, ptr b4]] →
    SatO Tryz.prog F83 #[.slice a len cp, ptr b1, ptr b2, ptr b3, ptr b4] H p (fun v V' q => ∃ r : Bool, v = .bool r ∧ r = true ∧ E (pre ++ ext k m xs) V' q) := by
  intro m
  induction m using Nat.strongRecOn with | _ m ih =>
  intro xs pre a len cp H p hlen h0 hm hs hcp hE hpf h1 h2 h3 h4
  refine enterO (n := 28) (args := [.slice a len cp, ptr b1, ptr b2, ptr b3, ptr b4]) Tryz.func127 rfl rfl rfl fun w0 => ?_
  refine K_seq ?_
  refine K_region ?_
  refine KV (R_assign rfl) rfl ?_
  refine K_nil ?_
  refine Q_then ?_
  refine K_seq ?_
  refine K_seq ?_
  refine K_region ?_
  refine KV (R_move rfl) rfl ?_
  refine KV (R_len sl25 rfl) rfl ?_
  refine KV (R_loadH ty3 rfl (h1) rfl (fun _ => rfl) rfl) rfl ?_
  refine KV (R_cmp rfl rfl rfl) rfl ?_
  refine K_nil ?_
  refine Q_then ?_
  refine K_if rfl (fun h11 => ?_) (fun h11 => ?_)
  ·
    have hm0 : m = 0 := by omega
    subst hm0
    refine K_seq ?_
    refine K_region ?_
    refine KV (R_loadH ty108 rfl (h2) rfl (fun _ => rfl) rfl) rfl ?_
    refine KV (R_move rfl) rfl ?_
    refine K_callO (first := []) p [] (by rw [List.append_nil]) hcal rfl rfl rfl (hV.2 H pre xs a len cp p hlen h0 hE hpf hs hcp) ?_
    rintro _ V1 q hle ⟨rfl, hr1⟩
    refine KV (R_assign rfl) rfl ?_
    refine K_nil ?_
    refine Q_then ?_
    refine K_ret ?_
    refine Q_then_ret ?_
    refine results_gen (rs := [.tmp 6]) (vs := [_]) rfl ⟨rfl, trivial⟩ ?_
    exact ⟨true, rfl, rfl, by rw [List.append_nil]; exact hr1⟩
  ·
    obtain ⟨m, rfl⟩ : ∃ m', m = m' + 1 := ⟨m - 1, by omega⟩
    refine K_skip ?_
    refine Q_then ?_
    refine K_seq ?_
    refine K_seq ?_
    refine K_region ?_
    refine KV (R_loadH ty3 rfl (h3) rfl (fun _ => rfl) rfl) rfl ?_
    refine KV (R_move rfl) rfl ?_
    refine K_nil ?_
    refine Q_then ?_
    refine K_block ?_
    refine K_loop (G := Nat × View × HL) ⟨fun g => [(0, .slice a len cp), (1, ptr b1), (2, ptr b2), (3, ptr b3), (4, ptr b4), (15, .int .i64 (k : Int)), (16, .int .i64 (g.1 : Int))], fun g => g.2.2, fun g => g.2.1, fun g => g.1 ≤ k ∧ VLe H g.2.1 ∧ E (pre ++ extTo k m xs g.1) g.2.1 g.2.2, fun g => k - g.1⟩ (0, H, p) ⟨Nat.zero_le _, VLe.refl H, by simpa [extTo] using hE⟩ ⟨rfl, rfl, rfl, rfl, rfl, rfl, rfl, trivial⟩ rfl rfl ?_
    rintro ⟨i, V, p'⟩ ⟨hi0, hV1, hE1⟩
    dsimp only at hi0 hV1 hE1 ⊢
    refine K_seq ?_
    refine K_region ?_
    refine KV (R_cmp rfl rfl rfl) rfl ?_
    refine K_nil ?_
    refine Q_then ?_
    refine K_seq ?_
    refine K_if rfl (fun h17 => ?_) (fun h17 => ?_)
    ·
      have hi : i < k := by omega
      refine K_skip ?_
      refine Q_then ?_
      refine K_seq ?_
      refine K_block ?_
      refine K_seq ?_
      refine K_region ?_
      refine KV (R_move rfl) rfl ?_
      refine KV (R_assign rfl) rfl ?_
      refine K_nil ?_
      refine Q_then ?_
      refine K_seq ?_
      refine K_regionD (fin := false) (R := [0, 1, 3, 2, 4, 5, 6, 7]) (by kernel_rfl) mixed (List.nil_sublist _) ?_
      refine D_val rfl rfl rfl (R_loadH ty108 rfl (h4.mono hV1) rfl (fun _ => rfl) rfl) ?_
      refine D_val rfl rfl rfl (R_move rfl) ?_
      refine D_val rfl rfl rfl (R_move rfl) ?_
      refine D_call rfl rfl c84 rfl trivial (clip_spec a len cp hcp V) ?_
      rintro _ V2 hle2 rfl
      refine D_alloc rfl rfl rfl (A_buildSlice (vs := [.int .i64 (i : Int)]) sl25 ty3 z3 rfl rfl (by simp [Value.cells]) (by simp) rfl (by decide)) fun b23 => ?_
      refine D_appendPub1 ap25 rfl rfl rfl ((hlen ▸ hs.1.mono (hV1.trans hle2)).recap len) (by simp [ints, hlen]) rfl rfl trivial rfl ⟨by omega, by omega⟩ fun v24 V3 hle3 hv24 => ?_
      obtain ⟨hsl, a24, c24, rfl, hc24⟩ := hv24
      refine D_callO (first := []) p' [] rfl rfl c83 rfl rfl (by rw [List.append_nil]) trivial (ih m (by omega) (xs ++ [(i : Int)]) (pre ++ extTo k m xs i) a24 (len + 1) c24 V3 p' (by simp [hlen]) (h0.trans (hV1.trans (hle2.trans hle3))) (by omega) (by subst hlen; exact SI.snoc hs.2 (by omega) hsl) hc24 (hV.1 _ _ _ _ (hle2.trans hle3) hE1) ?_ (h1.mono (hV1.trans (hle2.trans hle3))) (h2.mono (hV1.trans (hle2.trans hle3))) (h3.mono (hV1.trans (hle2.trans hle3))) (h4.mono (hV1.trans (hle2.trans hle3)))) ?_
      · exact ext_prefix hi hpf
      rintro _ V4 q hle4 ⟨r, rfl, hr, hr1⟩
      refine D_val rfl rfl rfl (R_not rfl) ?_
      refine D_done ?_
      refine Q_then ?_
      cases r with
      | false =>
        refine K_ifT rfl ?_
        refine K_seq ?_
        refine K_region ?_
        refine KV (R_assign rfl) rfl ?_
        refine K_nil ?_
        refine Q_then ?_
        refine K_ret ?_
        refine Q_block_ret ?_
        refine Q_then_ret ?_
        refine Q_then_ret ?_
        refine Q_block_ret ?_
        refine Q_then_ret ?_
        refine results_gen (rs := [.tmp 6]) (vs := [_]) rfl ⟨rfl, trivial⟩ ?_
        cases hr
      | true =>
        refine K_ifF rfl ?_
        refine K_skip ?_
        refine Q_block ?_
        refine Q_then ?_
        refine K_region ?_
        refine KV (R_add rfl rfl (by omega)) rfl ?_
        refine KV (R_move rfl) rfl ?_
        refine K_nil ?_
        refine Q_next (i + 1, V4, q) ⟨hi, hV1.trans (hle2.trans (hle3.trans hle4)), ?_⟩ (by dsimp only; omega) ⟨rfl, rfl, rfl, rfl, rfl, rfl, rfl, trivial⟩ (List.append_nil _) rfl
        rw [extTo_succ, ← List.append_assoc]
        exact hr1
    ·
      have hi : i = k := by omega
      subst hi
      refine K_exit ?_
      refine Q_then_exit ?_
      refine Q_then_exit ?_
      refine Q_block_exit ?_
      refine Q_then ?_
      refine K_seq ?_
      refine K_region ?_
      refine KV (R_assign rfl) rfl ?_
      refine K_nil ?_
      refine Q_then ?_
      refine K_ret ?_
      refine results_gen (rs := [.tmp 6]) (vs := [_]) rfl ⟨rfl, trivial⟩ ?_
      exact ⟨true, rfl, rfl, hE1⟩

theorem tuplesV_spec (n k gf : Nat) (cap : List Value) (E : List (List Int) → View → HL → Prop) (H : View) (p : HL) (hV : VisitV Tryz.prog gf cap H (ext k n []) E) (hcal : callable Tryz.prog gf = true) (hk : k ≤ 1099511627776) (hn : n ≤ 1099511627776) (hE : E [] H p) :
    SatO Tryz.prog F48 #[.int .i64 (n : Int), .int .i64 (k : Int), .func (.func gf) #[] cap.toArray] H p (fun _ V' q => E (ext k n []) V' q) := by
  refine enterO (n := 11) (args := [.int .i64 (n : Int), .int .i64 (k : Int), .func (.func gf) #[] cap.toArray]) Tryz.func70 rfl rfl rfl fun w0 => ?_
  refine K_seq ?_
  refine K_region ?_
  refine KA (A_box rfl) rfl fun b3 => ?_
  refine KA (A_box rfl) rfl fun b4 => ?_
  refine KA (A_box rfl) rfl fun b5 => ?_
  refine KV (R_assign rfl) rfl ?_
  refine K_nil ?_
  refine Q_then ?_
  refine K_seq ?_
  refine K_region ?_
  refine KA (A_alloc z108) rfl fun b7 => ?_
  refine K_nil ?_
  refine Q_then ?_
  refine K_seq ?_
  refine K_region ?_
  refine KV (R_makeFunc rfl rfl) rfl ?_
  refine K_store ty108 0 rfl rfl rfl rfl rfl rfl ?_
  refine K_nil ?_
  refine KQ_pubF fun V1 hle1 hb7 => ?_
  refine KQ_pubF fun V2 hle2 hb5 => ?_
  refine KQ_pubF fun V3 hle3 hb4 => ?_
  refine KQ_pubF fun V4 hle4 hb3 => ?_
  have hv4 := hle1.trans (hle2.trans (hle3.trans hle4))
  refine Q_then ?_
  refine K_seq ?_
  refine K_region ?_
  refine KV (R_loadH ty108 rfl ((At.of hb7).mono (hle2.trans (hle3.trans hle4))) rfl (fun _ => rfl) rfl) rfl ?_
  refine K_callO (first := []) p [] (by rw [List.append_nil]) c83 rfl rfl rfl (visitV_spec n k gf cap (ext k n []) E H hV hcal hk hn b3 b5 b4 b7 n [] [] none 0 0 V4 p rfl hv4 (by omega) ⟨⟨none, 0, rfl, .inl ⟨rfl, rfl⟩⟩, by simp⟩ (Nat.le_refl _) (hV.1 _ _ _ _ hv4 hE) (List.prefix_refl _) (At.of hb3) ((At.of hb5).mono (hle3.trans hle4)) ((At.of hb4).mono hle4) ((At.of hb7).mono (hle2.trans (hle3.trans hle4)))) ?_
  rintro _ V5 q hle5 ⟨r, rfl, hr, hr1⟩
  refine KV (R_assign rfl) rfl ?_
  refine K_nil ?_
  refine Q_then ?_
  refine K_ret ?_
  refine results_gen (rs := [.tmp 6]) (vs := [_]) rfl ⟨rfl, trivial⟩ ?_
  rw [List.append_nil]; exact hr1

theorem ruleout_spec (d : Dt) (hok : DtOk d) (s i k n : Nat) (xs : List Int) (b9 b10 b1 b12 : Nat) (w1 w2 w3 vr v : Value) (ua : Option Addr) (uc : Nat) (cells : List Value) (H : View) (hd : RepDt H d w1 w2 w3) (hA1 : At H b1 0 [w1, w2, w3]) (hA10 : At H b10 0 [.int .i64 (s : Int)]) (hv : SI H v xs)
    (hs : s < d.ranks.length) (hi : i < (tups d.acc.length (d.ranks.getD s 0).toNat).length) (hx : (tups d.acc.length (d.ranks.getD s 0).toNat)[i] = xs) (hk : k ≤ 1048576) (hi2 : i ≤ 1048576) :
    SatO Tryz.prog F64 #[v, ptr b9, ptr b10, ptr b1, ptr b12] H [blk b9 (.cells #[vr, .int .i64 (n : Int), .slice ua k uc, nilS] T50 (0, 0)), row (.slice ua k uc) T85 3 k cells, blk b12 (.cells #[.int .i64 (i : Int)] T3 (0, 0))]
      (fun r V' q => r = .bool true ∧ ∃ ua' uc' v', q = [blk b9 (.cells #[vr, .int .i64 (n : Int), .slice ua' (k + 1) uc', nilS] T50 (0, 0)), row (.slice ua' (k + 1) uc') T85 3 (k + 1) (cells ++ [.int .i64 (s : Int), v', .int .i64 (atM d (s : Int) xs)]), blk b12 (.cells #[.int .i64 ((i : Int) + 1)] T3 (0, 0))] ∧ ∃ a cp, v' = .slice a xs.length cp ∧ SI V' v' xs) := by
  obtain ⟨xa, xcp, rfl⟩ := hv.shape
  obtain ⟨ua1, uc1x, rfl⟩ := hd.r.shape
  obtain ⟨ua2, uc2x, rfl⟩ := hd.a.shape
  obtain ⟨ua3, uc3x, rfl⟩ := hd.t.shape
  obtain ⟨h1, h2, hat⟩ := at_place hok hs hi hx
  have hxl : xs.length ≤ 1048576 := by
    have h3 := (tups_item (List.getElem_mem hi)).1
    rw [hx] at h3
    have h4 := (ranksErr_ok hok.rk).2 s hs
    have e : d.ranks.getD s 0 = d.ranks[s] := by simp [List.getD, hs]
    rw [e] at h3; omega
  obtain ⟨db, do_, ea, ecp, hde, htx, hes⟩ := hd.t.get h1
  cases hde
  obtain ⟨fb, fo, hfe, hte⟩ := hes.get h2
  cases hfe
  have hA12 := hA1.one (j := 2) rfl
  refine enterO (n := 26) (args := [.slice xa xs.length xcp, ptr b9, ptr b10, ptr b1, ptr b12]) Tryz.func74 rfl rfl rfl fun w0 => ?_
  refine K_seq ?_
  refine K_region ?_
  refine KV (R_assign rfl) rfl ?_
  refine K_nil ?_
  refine Q_then ?_
  refine K_seq ?_
  refine K_regionD (fin := true) (R := [0, 1, 2, 3, 5, 6, 7, 8, 9, 10, 11, 12, 4, 13, 14, 15, 16, 17]) (by kernel_rfl) mixed (.cons_cons _ (.cons _ (.cons_cons _ (List.nil_sublist _)))) ?_
  refine D_val rfl rfl rfl (R_fieldAddr 2 fd50_2 rfl) ?_
  refine D_val rfl rfl rfl (R_loadO ty48 0 rfl rfl rfl rfl (fun _ => rfl) rfl) ?_
  refine D_val rfl rfl rfl (R_loadH ty3 rfl (hA10) rfl (fun _ => rfl) rfl) ?_
  refine D_val rfl rfl rfl (R_move rfl) ?_
  refine D_val rfl rfl rfl (R_fieldAddr 2 fd54_2 rfl) ?_
  refine D_val rfl rfl rfl (R_loadH ty44 rfl (hA12) rfl (fun _ => rfl) rfl) ?_
  refine D_val rfl rfl rfl (R_loadH ty3 rfl (hA10) rfl (fun _ => rfl) rfl) ?_
  refine D_val rfl rfl rfl (R_index sl44 ty25 rfl rfl ⟨by omega, by omega⟩) ?_
  refine D_val rfl rfl rfl (R_loadH ty25 rfl (htx) rfl (fun _ => rfl) rfl) ?_
  refine D_val rfl rfl rfl (R_loadO ty3 1 rfl rfl rfl rfl (fun _ => rfl) rfl) ?_
  refine D_val rfl rfl rfl (R_index sl25 ty3 rfl rfl ⟨by omega, by omega⟩) ?_
  refine D_val rfl rfl rfl (R_loadH ty3 rfl (hte) rfl (fun _ => rfl) rfl) ?_
  refine D_call rfl rfl c65 rfl ⟨⟨0, rfl⟩, ⟨2, rfl⟩, trivial⟩ (clone25_spec xs _ H hv (by omega)) ?_
  rintro cv V1 hle1 hcv
  obtain ⟨ca, cc, rfl⟩ := hcv.shape
  refine D_val rfl rfl rfl (R_build z85 pl85 rfl rfl) ?_
  refine D_alloc rfl rfl rfl (A_buildSlice (vs := [.agg #[.int .i64 (s : Int), .slice ca xs.length cc, .int .i64 d.to[s][i]]]) sl48 ty85 z85 rfl rfl (by simp [Value.cells]) (by simp) rfl (by decide)) fun b21 => ?_
  refine D_append1 1 ap48 rfl rfl rfl rfl rfl rfl ⟨⟨0, rfl⟩, ⟨1, rfl⟩, trivial⟩ rfl rfl ⟨by omega, by omega⟩ fun a22 k22 hn22 => ?_
  refine D_val rfl rfl rfl (R_fieldAddr 2 fd50_2 rfl) ?_
  refine D_lastStore ty48 1 rfl rfl rfl rfl rfl rfl rfl rfl ?_
  refine Q_then ?_
  refine K_seq ?_
  refine K_region ?_
  refine KV (R_loadO ty3 2 rfl rfl rfl rfl (fun _ => rfl) rfl) rfl ?_
  refine KV (R_add rfl rfl (by omega)) rfl ?_
  refine K_store ty3 2 rfl rfl rfl rfl rfl rfl ?_
  refine K_nil ?_
  refine Q_then ?_
  refine K_seq ?_
  refine K_region ?_
  refine KV (R_assign rfl) rfl ?_
  refine K_nil ?_
  refine Q_then ?_
  refine K_ret ?_
  refine results_sel [1, 0, 0] rfl (rs := [.tmp 6]) (vs := [_]) rfl ⟨rfl, trivial⟩ ?_
  rw [hat]
  exact ⟨rfl, a22, k22, _, rfl, ca, cc, rfl, hcv⟩
end Go.Proofs.X

namespace Go.Proofs.X
open Go Pal Go.Proofs
attribute [local irreducible] Pal.KO Pal.KC Pal.KQ Pal.KD
theorem c64 : callable Tryz.prog F64 = true := by kernel_rfl
theorem tonta_spec (d : Dt) (hb : d.ranks.length ≤ 1048576 ∧ d.acc.length ≤ 1048576 ∧ d.to.length ≤ 1048576 ∧ ∀ x ∈ d.to, x.length ≤ 1048576) (hsm : dtErr d = 0 → d.acc.length ≤ 5 ∧ d.ranks.length ≤ 8) (w1 w2 w3 : Value) (H : View) (hd : RepDt H d w1 w2 w3) :
    Sat Tryz.prog F27 #[.agg #[w1, w2, w3]] H (fun r H' => ∃ v1 v2 v3, r = .tuple #[.agg #[v1, .int .i64 (if dtErr d ≠ 0 then (⟨[], 0, [], []⟩ : Au) else ntaM d).states, v2, v3], .int .i64 (dtErr d)] ∧ RepAu H' (if dtErr d ≠ 0 then ⟨[], 0, [], []⟩ else ntaM d) v1 v2 v3) := by
  obtain ⟨ua1, uc1x, rfl⟩ := hd.r.shape
  obtain ⟨ua2, uc2x, rfl⟩ := hd.a.shape
  obtain ⟨ua3, uc3x, rfl⟩ := hd.t.shape
  refine enterO (n := 78) (args := [.agg #[.slice ua1 d.ranks.length uc1x, .slice ua2 d.acc.length uc2x, .slice ua3 d.to.length uc3x]]) Tryz.func32 rfl rfl rfl fun w0 => ?_
  refine K_seq ?_
  refine K_region ?_
  refine KA (A_box rfl) rfl fun b1 => ?_
  refine KA (A_alloc z50) rfl fun b2 => ?_
  refine KV (R_assign rfl) rfl ?_
  refine K_nil ?_
  refine Q_then ?_
  refine K_seq ?_
  refine K_seq ?_
  refine K_region ?_
  refine KV (R_loadO ty54 1 rfl rfl rfl rfl (fun e => by cases e) rfl) rfl ?_
  refine K_call c63 rfl rfl (dcheck_spec d _ _ _ H hd hb) ?_
  rintro _ V1 hv1 rfl
  refine KV (R_assign rfl) rfl ?_
  refine K_nil ?_
  refine Q_then ?_
  refine K_seq ?_
  refine K_region ?_
  refine KV (R_move rfl) rfl ?_
  refine KV (R_cmp rfl rfl rfl) rfl ?_
  refine K_nil ?_
  refine Q_then ?_
  refine K_if rfl (fun h18 => ?_) (fun h18 => ?_)
  ·
    refine K_seq ?_
    refine K_region ?_
    refine KV (R_build z50 pl50 rfl rfl) rfl ?_
    refine KV (R_move rfl) rfl ?_
    refine K_store ty50 0 rfl rfl rfl rfl rfl rfl ?_
    refine KV (R_assign rfl) rfl ?_
    refine K_nil ?_
    refine Q_then ?_
    refine K_ret ?_
    refine Q_then_ret ?_
    refine results_gen (rs := [.cell 2 71, .tmp 3]) (vs := [_, _]) rfl ⟨⟨_, _, _, _, _, _, 0, rfl, rfl, ty50, (fun e => by cases e), rfl, rfl⟩, ⟨rfl, trivial⟩⟩ ?_
    rw [if_pos (by omega)]
    exact ⟨_, _, _, rfl, RepAu.nil _⟩
  ·
    have hd0 : dtErr d = 0 := by omega
    have hok := DtOk.of hd0
    obtain ⟨hn5, hr8⟩ := hsm hd0
    have htl := hok.tl
    refine K_skip ?_
    refine Q_then ?_
    refine K_seq ?_
    refine K_region ?_
    refine KV (R_fieldAddr 1 fd54_1 rfl) rfl ?_
    refine KV (R_loadO ty52 1 rfl rfl rfl rfl (fun _ => rfl) rfl) rfl ?_
    refine KV (R_len sl52 rfl) rfl ?_
    refine KV (R_assign rfl) rfl ?_
    refine KV (R_assign rfl) rfl ?_
    refine K_nil ?_
    refine KQ_front 1 rfl ?_
    refine KQ_pubF fun Vb hvb hb1 => ?_
    dsimp only [List.eraseIdx]
    have hA1 := At.of hb1
    have hA10 := hA1.one (j := 0) rfl
    have hA11 := hA1.one (j := 1) rfl
    have hA12 := hA1.one (j := 2) rfl
    refine Q_then ?_
    refine K_seq ?_
    refine K_seq ?_
    refine K_region ?_
    refine KV (R_fieldAddr 2 fd54_2 rfl) rfl ?_
    refine KV (R_loadH ty44 rfl (hA12) rfl (fun _ => rfl) rfl) rfl ?_
    refine KV (R_len sl44 rfl) rfl ?_
    refine KV (R_move rfl) rfl ?_
    refine K_nil ?_
    refine Q_then ?_
    refine K_block ?_
    refine K_loopD (G := Nat × Int) [6, 8, 27, 28, 29, 30, 31, 32, 33, 34, 35] (fun g => [(27, .int .i64 (g.1 : Int)), (6, .int .i64 g.2)]) (fun hl g => hl) (fun g => Vb) (fun g => (g.1 ≤ d.to.length) ∧ (0 ≤ g.2 ∧ g.2 ≤ 25 * (g.1 : Int))) (fun g => d.to.length - g.1) (0, 0) ⟨Nat.zero_le _, by decide⟩ ⟨rfl, rfl, trivial⟩ (by simp only [args0, Nat.reduceAdd, del, memN, beqN, Nat.reduceBEq, cond_true, cond_false]; rfl) rfl rfl ?_
    rintro ⟨k, z⟩ ⟨hk, hz⟩
    dsimp only at hk hz
    dsimp only [List.set, List.cons_append, List.nil_append]
    refine K_seq ?_
    refine K_region ?_
    refine KV (R_cmp rfl rfl rfl) rfl ?_
    refine K_nil ?_
    refine Q_then ?_
    refine K_seq ?_
    refine K_if rfl (fun h28 => ?_) (fun h28 => ?_)
    ·
      have hk2 : k < d.to.length := by omega
      have hk25 := to_len25 hok hn5 hk2
      obtain ⟨tb, to_, ea, ecp, hte, hta, hes⟩ := (hd.mono (hv1.trans hvb)).t.get hk2
      cases hte
      refine K_skip ?_
      refine Q_then ?_
      refine K_seq ?_
      refine K_block ?_
      refine K_seq ?_
      refine K_region ?_
      refine KV (R_indexN sl44 ty25 rfl rfl (by omega)) rfl ?_
      refine KV (R_loadH ty25 rfl (hta) rfl (fun _ => rfl) rfl) rfl ?_
      refine KV (R_assign rfl) rfl ?_
      refine K_nil ?_
      refine Q_then ?_
      refine K_region ?_
      refine KV (R_move rfl) rfl ?_
      refine KV (R_move rfl) rfl ?_
      refine KV (R_len sl25 rfl) rfl ?_
      refine KV (R_add rfl rfl (by omega)) rfl ?_
      refine KV (R_assign rfl) rfl ?_
      refine K_nil ?_
      refine Q_block ?_
      refine Q_then ?_
      refine K_region ?_
      refine KV (R_add rfl rfl (by omega)) rfl ?_
      refine KV (R_move rfl) rfl ?_
      refine K_nil ?_
      refine Q_nextD (k + 1, z + (d.to[k].length : Int)) ⟨hk2, by omega⟩ (by (try dsimp only); omega) ⟨rfl, rfl, trivial⟩ rfl rfl rfl
    ·
      have hk2 : k = d.to.length := by omega
      refine K_exit ?_
      refine Q_then_exit ?_
      refine Q_then_exit ?_
      refine Q_block_exit ?_
      refine Q_then ?_
      refine K_seq ?_
      refine K_seq ?_
      refine K_region ?_
      refine KV (R_move rfl) rfl ?_
      refine KV (R_cmp rfl rfl rfl) rfl ?_
      refine KV (R_move rfl) rfl ?_
      refine K_split ?_ ?_
      ·
        intro h38
        refine K_gno rfl rfl rfl rfl ?_
        refine K_gno rfl rfl rfl rfl ?_
        refine KV (R_pickT rfl rfl) rfl ?_
        refine K_nil ?_
        refine Q_then ?_
        refine K_ifT rfl ?_
        refine K_seq ?_
        refine K_region ?_
        refine KV (R_build z50 pl50 rfl rfl) rfl ?_
        refine K_store ty50 0 rfl rfl rfl rfl rfl rfl ?_
        refine KV (R_assign rfl) rfl ?_
        refine K_nil ?_
        refine Q_then ?_
        refine K_ret ?_
        refine Q_then_ret ?_
        refine results_gen (rs := [.cell 2 71, .tmp 3]) (vs := [_, _]) rfl ⟨⟨_, _, _, _, _, _, 0, rfl, rfl, ty50, (fun e => by cases e), rfl, rfl⟩, ⟨rfl, trivial⟩⟩ ?_
        exfalso; omega
      ·
        intro h38
        refine K_gyes rfl rfl ?_
        refine KV (R_move rfl) rfl ?_
        refine K_gyes rfl rfl ?_
        refine KV (R_cmp rfl rfl rfl) rfl ?_
        refine KV (R_pickF rfl rfl) rfl ?_
        refine K_nil ?_
        refine Q_then ?_
        refine K_if rfl (fun h41 => ?_) (fun h41 => ?_)
        ·
          refine K_seq ?_
          refine K_region ?_
          refine KV (R_build z50 pl50 rfl rfl) rfl ?_
          refine K_store ty50 0 rfl rfl rfl rfl rfl rfl ?_
          refine KV (R_assign rfl) rfl ?_
          refine K_nil ?_
          refine Q_then ?_
          refine K_ret ?_
          refine Q_then_ret ?_
          refine results_gen (rs := [.cell 2 71, .tmp 3]) (vs := [_, _]) rfl ⟨⟨_, _, _, _, _, _, 0, rfl, rfl, ty50, (fun e => by cases e), rfl, rfl⟩, ⟨rfl, trivial⟩⟩ ?_
          exfalso; omega
        ·
          refine K_skip ?_
          refine Q_then ?_
          refine K_seq ?_
          refine K_region ?_
          refine KV (R_fieldAddr 0 fd54_0 rfl) rfl ?_
          refine KV (R_loadH ty47 rfl (hA10) rfl (fun _ => rfl) rfl) rfl ?_
          refine K_call c45 rfl rfl (clone47_spec d.ranks _ Vb (hd.mono (hv1.trans hvb)).r (by omega)) ?_
          rintro cr V0 hv0 hcr
          obtain ⟨ca, cc, rfl⟩ := hcr.shape
          refine KV (R_move rfl) rfl ?_
          refine KV (R_build z50 pl50 rfl rfl) rfl ?_
          refine KA (A_alloc z50) rfl fun b9 => ?_
          refine K_store ty50 0 rfl rfl rfl rfl rfl rfl ?_
          refine K_nil ?_
          refine Q_then ?_
          refine K_seq ?_
          refine K_seq ?_
          refine K_region ?_
          refine KV (R_fieldAddr 0 fd54_0 rfl) rfl ?_
          refine KV (R_loadH ty47 rfl (hA10.mono hv0) rfl (fun _ => rfl) rfl) rfl ?_
          refine KV (R_len sl47 rfl) rfl ?_
          refine KV (R_move rfl) rfl ?_
          refine K_nil ?_
          refine Q_then ?_
          refine K_block ?_
          refine K_nilrow T85 3 ?_
          refine K_loopD (G := Nat × View × Option Addr × Nat × List Value) [10, 11, 12, 51, 52, 53, 54, 55, 56, 57, 58, 59, 60] (fun g => [(51, .int .i64 (g.1 : Int))]) (fun hl g => ((hl.set 0 (row (.slice g.2.2.1 (rulesTo d g.1).length g.2.2.2.1) T85 3 (rulesTo d g.1).length g.2.2.2.2)).set 1 (blk b9 (.cells #[.slice ca d.ranks.length cc, .int .i64 (d.acc.length : Int), .slice g.2.2.1 (rulesTo d g.1).length g.2.2.2.1, nilS] T50 (0, 0))))) (fun g => g.2.1) (fun g => (g.1 ≤ d.ranks.length) ∧ (VLe V0 g.2.1) ∧ (RepL (RepR g.2.1) 3 (rulesTo d g.1) g.2.2.2.2)) (fun g => d.ranks.length - g.1) (0, V0, none, 0, []) ⟨Nat.zero_le _, VLe.refl _, .nil⟩ ⟨rfl, trivial⟩ (by simp only [args0, Nat.reduceAdd, del, memN, beqN, Nat.reduceBEq, cond_true, cond_false]; rfl) rfl rfl ?_
          rintro ⟨s, V, ua, uc, cells⟩ ⟨hs, hV, hC⟩
          dsimp only at hs hV hC
          dsimp only [List.set, List.cons_append, List.nil_append]
          have hrtl := rulesTo_len hok hn5 hs
          refine K_seq ?_
          refine K_region ?_
          refine KV (R_cmp rfl rfl rfl) rfl ?_
          refine K_nil ?_
          refine Q_then ?_
          refine K_seq ?_
          refine K_if rfl (fun h52 => ?_) (fun h52 => ?_)
          ·
            have hs2 : s < d.ranks.length := by omega
            obtain ⟨rb, ro, hre, hrka⟩ := (hd.mono (hv1.trans (hvb.trans (hv0.trans hV)))).r.get hs2
            cases hre
            have hrk2 := (ranksErr_ok hok.rk).2 s hs2
            obtain ⟨nn, hnn⟩ : ∃ nn : Nat, d.ranks[s] = (nn : Int) := ⟨d.ranks[s].toNat, by omega⟩
            have hnt : d.ranks[s].toNat = nn := by omega
            rw [hnn] at hrka
            have hgd : d.ranks.getD s 0 = d.ranks[s] := by simp [List.getD, hs2]
            have htl5 : (tups d.acc.length nn).length ≤ 262144 := by rw [tups_len]; exact pow_le2 (by omega) (by omega)
            refine K_skip ?_
            refine Q_then ?_
            refine K_seq ?_
            refine K_block ?_
            refine K_seq ?_
            refine K_region ?_
            refine KV (R_move rfl) rfl ?_
            refine KV (R_indexN sl47 ty3 rfl rfl (by omega)) rfl ?_
            refine KV (R_loadH ty3 rfl (hrka) rfl (fun _ => rfl) rfl) rfl ?_
            refine KA (A_alloc z3) rfl fun b10 => ?_
            refine K_store ty3 0 rfl rfl rfl rfl rfl rfl ?_
            refine KV (R_assign rfl) rfl ?_
            refine K_nil ?_
            refine Q_then ?_
            refine K_seq ?_
            refine K_region ?_
            refine KA (A_alloc z3) rfl fun b12 => ?_
            refine K_store ty3 0 rfl rfl rfl rfl rfl rfl ?_
            refine K_nil ?_
            refine Q_then ?_
            refine KC_front 1 rfl ?_
            refine KC_pubF fun Vp hvp hb10 => ?_
            try dsimp only [List.eraseIdx]
            refine K_region ?_
            refine KV (R_move rfl) rfl ?_
            refine KV (R_move rfl) rfl ?_
            refine KV (R_makeFunc rfl rfl) rfl ?_
            refine KO_sel [2, 1, 0, 0] rfl ?_
            have hvis : VisitV Tryz.prog F64 [ptr b9, ptr b10, ptr b1, ptr b12] Vp (ext d.acc.length nn []) (fun pre V q => ∃ ua uc cs, q = [blk b9 (.cells #[.slice ca d.ranks.length cc, .int .i64 (d.acc.length : Int), .slice ua (rulesTo d s ++ pre.map (rlD d s)).length uc, nilS] T50 (0, 0)), row (.slice ua (rulesTo d s ++ pre.map (rlD d s)).length uc) T85 3 (rulesTo d s ++ pre.map (rlD d s)).length cs, blk b12 (.cells #[.int .i64 (pre.length : Int)] T3 (0, 0))] ∧ RepL (RepR V) 3 (rulesTo d s ++ pre.map (rlD d s)) cs) := by
              refine ⟨fun pre V V' q hle ⟨ua, uc, cs, g1, g2⟩ => ⟨ua, uc, cs, g1, g2.imp fun _ _ h => h.mono hle⟩, ?_⟩
              rintro G pre xs xa len cp p hlen hle ⟨ua2, uc2, cs2, rfl, hC2⟩ hpf hxs hcp
              rw [ext_nil] at hpf
              obtain ⟨hi9, hx9⟩ := prefix_at hpf
              have hch := hv0.trans (hV.trans (hvp.trans hle))
              have hbd := hpf.length_le
              rw [List.length_append] at hbd
              subst hlen
              have hat := (hok.at_ok (s := (s : Int)) (l := xs) ⟨by omega, by omega⟩ (by rw [← hx9, (tups_item (List.getElem_mem hi9)).1, Int.toNat_natCast, hgd]; omega) (by rw [← hx9]; exact (tups_item (List.getElem_mem hi9)).2)).2.2
              have hxl := (tups_item (List.getElem_mem hi9)).1
              rw [hx9] at hxl
              refine (ruleout_spec d hok s pre.length (rulesTo d s ++ pre.map (rlD d s)).length d.acc.length xs b9 b10 b1 b12 _ _ _ _ _ ua2 uc2 cs2 G (hd.mono (hv1.trans (hvb.trans hch))) (hA1.mono hch) ((At.of hb10).mono hle) hxs hs2 (by rw [hgd, hnt]; exact hi9) (by simp only [hgd, hnt]; exact hx9) (by rw [List.length_append, List.length_map]; omega) (by omega)).monoL ?_
              rintro v V' q hvq ⟨rfl, ua', uc', v', rfl, a', cp', rfl, hsv⟩
              have e1 : rulesTo d s ++ (pre ++ [xs]).map (rlD d s) = (rulesTo d s ++ pre.map (rlD d s)) ++ [rlD d s xs] := by rw [List.map_append, ← List.append_assoc]; rfl
              have e2 : ((rulesTo d s ++ pre.map (rlD d s)) ++ [rlD d s xs]).length = (rulesTo d s ++ pre.map (rlD d s)).length + 1 := by rw [List.length_append]; rfl
              have e3 : (((pre ++ [xs]).length : Nat) : Int) = (pre.length : Int) + 1 := by rw [List.length_append]; simp
              refine ⟨rfl, ?_⟩
              dsimp only
              rw [e1, e2, e3]
              refine ⟨ua', uc', _, rfl, (hC2.imp fun _ _ h => h.mono hvq).snoc ⟨a', cp', rfl, hsv, by simp only [rlD, i64ok]; omega, by simp only [rlD, i64ok]; omega, by simp only [rlD]; omega⟩ rfl⟩
            refine K_callO (first := []) [_, _, _] [_] (List.Perm.refl _) c48 rfl rfl rfl (tuplesV_spec nn d.acc.length F64 [ptr b9, ptr b10, ptr b1, ptr b12] _ Vp _ hvis c64 (by omega) (by omega) ⟨ua, uc, cells, by simp only [List.map_nil, List.append_nil]; rfl, by simp only [List.map_nil, List.append_nil]; exact hC.imp fun _ _ h => h.mono hvp⟩) ?_
            rintro _ V2 q hle2 ⟨ua2, uc2, cs2, rfl, hC2⟩
            dsimp only [List.cons_append, List.nil_append]
            have hus : rulesTo d s ++ (ext d.acc.length nn []).map (rlD d s) = rulesTo d (s + 1) := by rw [ext_nil, rulesTo_succ, hgd, hnt]
            rw [hus] at hC2 ⊢
            refine K_nil ?_
            refine KQ_sel [1, 0, 1] rfl ?_
            refine Q_block ?_
            refine Q_then ?_
            refine K_region ?_
            refine KV (R_add rfl rfl (by omega)) rfl ?_
            refine KV (R_move rfl) rfl ?_
            refine K_nil ?_
            refine Q_nextD (s + 1, V2, ua2, uc2, cs2) ⟨hs2, hV.trans (hvp.trans hle2), hC2⟩ (by (try dsimp only); omega) ⟨rfl, trivial⟩ rfl rfl rfl
          ·
            have hs2 : s = d.ranks.length := by omega
            subst hs2
            refine K_exit ?_
            refine Q_then_exit ?_
            refine Q_then_exit ?_
            refine Q_block_exit ?_
            refine Q_then ?_
            refine K_seq ?_
            refine K_seq ?_
            refine K_region ?_
            refine KV (R_fieldAddr 1 fd54_1 rfl) rfl ?_
            refine KV (R_loadH ty52 rfl (hA11.mono (hv0.trans hV)) rfl (fun _ => rfl) rfl) rfl ?_
            refine KV (R_len sl52 rfl) rfl ?_
            refine KV (R_move rfl) rfl ?_
            refine K_nil ?_
            refine Q_then ?_
            refine K_block ?_
            refine K_nilrow T3 1 ?_
            refine K_loopD (G := Nat × Value) [13, 14, 64, 65, 66, 67, 68, 69, 70, 71, 72, 73, 74, 75, 76] (fun g => [(64, .int .i64 (g.1 : Int))]) (fun hl g => ((hl.set 0 (row g.2 T3 1 (finTo d g.1).length (ints (finTo d g.1)))).set 2 (blk b9 (.cells #[.slice ca d.ranks.length cc, .int .i64 (d.acc.length : Int), .slice ua (rulesTo d d.ranks.length).length uc, g.2] T50 (0, 0))))) (fun g => V) (fun g => (g.1 ≤ d.acc.length) ∧ (∃ ad cp, g.2 = .slice ad (finTo d g.1).length cp)) (fun g => d.acc.length - g.1) (0, nilS) ⟨Nat.zero_le _, none, 0, rfl⟩ ⟨rfl, trivial⟩ (by simp only [args0, Nat.reduceAdd, del, memN, beqN, Nat.reduceBEq, cond_true, cond_false]; rfl) rfl rfl ?_
            rintro ⟨q, wf⟩ ⟨hq, hwf⟩
            dsimp only at hq hwf
            dsimp only [List.set, List.cons_append, List.nil_append]
            obtain ⟨fa, fcp, rfl⟩ := hwf
            have hfl : (finTo d q).length ≤ q := subL_len _ _
            refine K_seq ?_
            refine K_region ?_
            refine KV (R_cmp rfl rfl rfl) rfl ?_
            refine K_nil ?_
            refine Q_then ?_
            refine K_seq ?_
            refine K_if rfl (fun h65 => ?_) (fun h65 => ?_)
            ·
              have hq2 : q < d.acc.length := by omega
              obtain ⟨qb, qo, hqe, hqa⟩ := (hd.mono (hv1.trans (hvb.trans (hv0.trans hV)))).a.get hq2
              cases hqe
              have hgq : d.acc.getD q false = d.acc[q] := by simp [List.getD, hq2]
              refine K_skip ?_
              refine Q_then ?_
              refine K_seq ?_
              refine K_block ?_
              refine K_seq ?_
              refine K_region ?_
              refine KV (R_move rfl) rfl ?_
              refine KV (R_indexN sl52 ty4 rfl rfl (by omega)) rfl ?_
              refine KV (R_loadH ty4 rfl (hqa) rfl (fun _ => rfl) rfl) rfl ?_
              refine KV (R_assign rfl) rfl ?_
              refine KV (R_assign rfl) rfl ?_
              refine K_nil ?_
              refine Q_then ?_
              refine K_seq ?_
              refine K_region ?_
              refine KV (R_move rfl) rfl ?_
              refine K_nil ?_
              refine Q_then ?_
              refine K_ifB rfl (fun h69 => ?_) (fun h69 => ?_)
              ·
                have h69' : (fun s => d.acc.getD s false) q = true := by dsimp only; rw [hgq]; exact h69
                refine K_region ?_
                refine KV (R_fieldAddr 3 fd50_3 rfl) rfl ?_
                refine KV (R_loadO ty25 2 rfl rfl rfl rfl (fun _ => rfl) rfl) rfl ?_
                refine KV (R_move rfl) rfl ?_
                refine KA (A_buildSlice (vs := [.int .i64 (q : Int)]) sl25 ty3 z3 rfl rfl (by simp [Value.cells]) (by simp) rfl (by decide)) rfl fun b73 => ?_
                refine K_append1 0 ap25 rfl rfl rfl rfl rfl rfl ⟨by omega, by omega⟩ rfl fun a74 k74 hn74 => ?_
                refine KV (R_fieldAddr 3 fd50_3 rfl) rfl ?_
                refine K_store ty25 2 rfl rfl rfl rfl rfl rfl ?_
                refine K_nil ?_
                refine Q_block ?_
                refine Q_then ?_
                refine K_region ?_
                refine KV (R_add rfl rfl (by omega)) rfl ?_
                refine KV (R_move rfl) rfl ?_
                refine K_nil ?_
                refine Q_nextD (q + 1, .slice a74 ((finTo d q).length + 1) k74) ⟨hq2, _, _, by unfold finTo; rw [subL_yes h69', List.length_append]; rfl⟩ (by (try dsimp only); omega) ⟨rfl, trivial⟩ rfl (by dsimp only; unfold finTo; rw [subL_yes h69', List.length_append, ints_snoc]; rfl) rfl
              ·
                have h69' : (fun s => d.acc.getD s false) q = false := by dsimp only; rw [hgq]; exact h69
                refine K_skip ?_
                refine Q_block ?_
                refine Q_then ?_
                refine K_region ?_
                refine KV (R_add rfl rfl (by omega)) rfl ?_
                refine KV (R_move rfl) rfl ?_
                refine K_nil ?_
                refine Q_nextD (q + 1, .slice fa (finTo d q).length fcp) ⟨hq2, _, _, by unfold finTo; rw [subL_no h69']⟩ (by (try dsimp only); omega) ⟨rfl, trivial⟩ rfl (by dsimp only; unfold finTo; rw [subL_no h69']) rfl
            ·
              have hq2 : q = d.acc.length := by omega
              subst hq2
              refine K_exit ?_
              refine Q_then_exit ?_
              refine Q_then_exit ?_
              refine Q_block_exit ?_
              refine Q_then ?_
              refine K_seq ?_
              refine K_region ?_
              refine KV (R_loadO ty50 2 rfl rfl rfl rfl (fun e => by cases e) rfl) rfl ?_
              refine K_store ty50 3 rfl rfl rfl rfl rfl rfl ?_
              refine KV (R_assign rfl) rfl ?_
              refine K_nil ?_
              refine Q_then ?_
              refine K_ret ?_
              refine KQ_pubrow rfl fun HpA hpA hrowA => ?_
              refine KQ_pubrow rfl fun HpB hpB hrowB => ?_
              refine results_gen (rs := [.cell 2 71, .tmp 3]) (vs := [_, _]) rfl ⟨⟨_, _, _, _, _, _, 1, rfl, rfl, ty50, (fun e => by cases e), rfl, rfl⟩, ⟨rfl, trivial⟩⟩ ?_
              rw [if_neg (by omega), hd0]
              have hrtl := rulesTo_len hok hn5 (Nat.le_refl _)
              have hfl : (finTo d d.acc.length).length ≤ d.acc.length := subL_len _ _
              refine ⟨_, _, _, rfl, hcr.mono (hV.trans (hpA.trans hpB)), ⟨cells, hrowB.sl, hC.imp fun _ _ h => h.mono (hpA.trans hpB)⟩, ⟨hrowA.sl.mono hpB, ?_⟩, by simp only [i64ok, ntaM]; omega, ?_, ?_, ?_⟩
              · intro x hx
                obtain ⟨k, hk, rfl⟩ := List.mem_map.1 hx
                have := List.mem_range.1 (List.mem_filter.1 hk).1
                simp only [i64ok]; omega
              · show d.ranks.length ≤ _; omega
              · show (rulesTo d d.ranks.length).length ≤ _; omega
              · show (finTo d d.acc.length).length ≤ _; omega
end Go.Proofs.X

namespace Go.Proofs.X
open Go Pal Go.Proofs
attribute [local irreducible] Pal.KO Pal.KC Pal.KQ Pal.KD
theorem c2071 : callable Tryz.prog F2071 = true := by kernel_rfl
theorem c2089 : callable Tryz.prog F2089 = true := by kernel_rfl
theorem isNaN_spec (x : Int) (H : View) : Sat Tryz.prog F2089 #[.int .i64 x] H (fun r _ => r = .bool false) := by
  refine enterO (n := 6) (args := [.int .i64 x]) Tryz.func201 rfl rfl rfl fun w0 => ?_
  refine K_seq ?_
  refine K_region ?_
  refine KV (R_assign rfl) rfl ?_
  refine K_nil ?_
  refine Q_then ?_
  refine K_seq ?_
  refine K_region ?_
  refine KV (R_move rfl) rfl ?_
  refine KV (R_move rfl) rfl ?_
  refine KV (R_cmp rfl rfl rfl) rfl ?_
  refine KV (R_assign rfl) rfl ?_
  refine K_nil ?_
  refine Q_then ?_
  refine K_ret ?_
  refine results_gen (rs := [.tmp 2]) (vs := [_]) rfl ⟨rfl, trivial⟩ ?_
  simp [tupV]

theorem ccmp_spec (x y : Int) (H : View) : Sat Tryz.prog F2071 #[.int .i64 x, .int .i64 y] H (fun r _ => r = .int .i64 (if x < y then -1 else if y < x then 1 else 0)) := by
  refine enterO (n := 20) (args := [.int .i64 x, .int .i64 y]) Tryz.func178 rfl rfl rfl fun w0 => ?_
  refine K_seq ?_
  refine K_region ?_
  refine KV (R_assign rfl) rfl ?_
  refine K_nil ?_
  refine Q_then ?_
  refine K_seq ?_
  refine K_region ?_
  refine KV (R_move rfl) rfl ?_
  refine K_call c2089 rfl rfl (isNaN_spec x H) ?_
  rintro _ V1 hv1 rfl
  refine KV (R_assign rfl) rfl ?_
  refine K_nil ?_
  refine Q_then ?_
  refine K_seq ?_
  refine K_region ?_
  refine KV (R_move rfl) rfl ?_
  refine K_call c2089 rfl rfl (isNaN_spec y V1) ?_
  rintro _ V2 hv2 rfl
  refine KV (R_assign rfl) rfl ?_
  refine K_nil ?_
  refine Q_then ?_
  refine K_seq ?_
  refine K_seq ?_
  refine K_region ?_
  refine KV (R_move rfl) rfl ?_
  refine K_nil ?_
  refine Q_then ?_
  refine K_ifB rfl (fun h11 => ?_) (fun h11 => ?_)
  ·
    cases h11
  ·
    refine K_skip ?_
    refine Q_then ?_
    refine K_seq ?_
    refine K_seq ?_
    refine K_region ?_
    refine KV (R_move rfl) rfl ?_
    refine K_nil ?_
    refine Q_then ?_
    refine K_ifB rfl (fun h13 => ?_) (fun h13 => ?_)
    ·
      cases h13
    ·
      refine K_skip ?_
      refine Q_then ?_
      refine K_seq ?_
      refine K_seq ?_
      refine K_region ?_
      refine KV (R_move rfl) rfl ?_
      refine KV (R_move rfl) rfl ?_
      refine KV (R_cmp rfl rfl rfl) rfl ?_
      refine K_nil ?_
      refine Q_then ?_
      refine K_if rfl (fun h16 => ?_) (fun h16 => ?_)
      ·
        refine K_seq ?_
        refine K_region ?_
        refine KV (R_assign rfl) rfl ?_
        refine K_nil ?_
        refine Q_then ?_
        refine K_ret ?_
        refine Q_then_ret ?_
        refine results_gen (rs := [.tmp 4]) (vs := [_]) rfl ⟨rfl, trivial⟩ ?_
        rw [if_pos h16]; rfl
      ·
        refine K_skip ?_
        refine Q_then ?_
        refine K_seq ?_
        refine K_seq ?_
        refine K_region ?_
        refine KV (R_move rfl) rfl ?_
        refine KV (R_move rfl) rfl ?_
        refine KV (R_cmp rfl rfl rfl) rfl ?_
        refine K_nil ?_
        refine Q_then ?_
        refine K_if rfl (fun h19 => ?_) (fun h19 => ?_)
        ·
          refine K_seq ?_
          refine K_region ?_
          refine KV (R_assign rfl) rfl ?_
          refine K_nil ?_
          refine Q_then ?_
          refine K_ret ?_
          refine Q_then_ret ?_
          refine results_gen (rs := [.tmp 4]) (vs := [_]) rfl ⟨rfl, trivial⟩ ?_
          rw [if_neg h16, if_pos (by omega)]; rfl
        ·
          refine K_skip ?_
          refine Q_then ?_
          refine K_seq ?_
          refine K_region ?_
          refine KV (R_assign rfl) rfl ?_
          refine K_nil ?_
          refine Q_then ?_
          refine K_ret ?_
          refine results_gen (rs := [.tmp 4]) (vs := [_]) rfl ⟨rfl, trivial⟩ ?_
          rw [if_neg h16, if_neg (by omega)]; rfl

theorem compareI_spec (xs ys : List Int) (v w : Value) (H : View) (hv : SI H v xs) (hw : SI H w ys) (hx : xs.length ≤ 1099511627776) (hy : ys.length ≤ 1099511627776) : Sat Tryz.prog F2044 #[v, w] H (fun r _ => r = .int .i64 (cmpL xs ys)) := by
  obtain ⟨xa, xcp, rfl⟩ := hv.shape
  obtain ⟨ya, ycp, rfl⟩ := hw.shape
  refine enterO (n := 36) (args := [.slice xa xs.length xcp, .slice ya ys.length ycp]) Tryz.func179 rfl rfl rfl fun w0 => ?_
  refine K_seq ?_
  refine K_region ?_
  refine KV (R_assign rfl) rfl ?_
  refine K_nil ?_
  refine Q_then ?_
  refine K_seq ?_
  refine K_seq ?_
  refine K_region ?_
  refine KV (R_move rfl) rfl ?_
  refine KV (R_len sl25 rfl) rfl ?_
  refine KV (R_move rfl) rfl ?_
  refine K_nil ?_
  refine Q_then ?_
  refine K_block ?_
  refine K_loopD (G := Nat × View) [4, 5, 6, 7, 8, 11, 12, 13, 14, 15, 16, 17, 18, 19, 20, 21, 22, 23, 24, 25, 26, 27, 28, 29, 30] (fun g => [(11, .int .i64 (g.1 : Int))]) (fun hl g => hl) (fun g => g.2) (fun g => (g.1 ≤ xs.length) ∧ (g.1 ≤ ys.length) ∧ (VLe H g.2) ∧ (cmpL xs ys = cmpL (xs.drop g.1) (ys.drop g.1))) (fun g => xs.length - g.1) (0, H) ⟨Nat.zero_le _, Nat.zero_le _, VLe.refl _, rfl⟩ ⟨rfl, trivial⟩ (by simp only [args0, Nat.reduceAdd, del, memN, beqN, Nat.reduceBEq, cond_true, cond_false]; rfl) rfl rfl ?_
  rintro ⟨k, V⟩ ⟨hk1, hk2, hV, hc⟩
  dsimp only at hk1 hk2 hV hc
  dsimp only [List.set, List.cons_append, List.nil_append]
  refine K_seq ?_
  refine K_region ?_
  refine KV (R_cmp rfl rfl rfl) rfl ?_
  refine K_nil ?_
  refine Q_then ?_
  refine K_seq ?_
  refine K_if rfl (fun h12 => ?_) (fun h12 => ?_)
  ·
    have hx1 : k < xs.length := by omega
    obtain ⟨xb, xo, hxe, hxa⟩ := (hv.mono hV).get hx1
    cases hxe
    refine K_skip ?_
    refine Q_then ?_
    refine K_seq ?_
    refine K_block ?_
    refine K_seq ?_
    refine K_region ?_
    refine KV (R_move rfl) rfl ?_
    refine KV (R_indexN sl25 ty3 rfl rfl (by omega)) rfl ?_
    refine KV (R_loadH ty3 rfl (hxa) rfl (fun _ => rfl) rfl) rfl ?_
    refine KV (R_assign rfl) rfl ?_
    refine KV (R_assign rfl) rfl ?_
    refine K_nil ?_
    refine Q_then ?_
    refine K_seq ?_
    refine K_seq ?_
    refine K_region ?_
    refine KV (R_move rfl) rfl ?_
    refine KV (R_move rfl) rfl ?_
    refine KV (R_len sl25 rfl) rfl ?_
    refine KV (R_cmp rfl rfl rfl) rfl ?_
    refine K_nil ?_
    refine Q_then ?_
    refine K_if rfl (fun h19 => ?_) (fun h19 => ?_)
    ·
      have hend := cmpL_end hk1 hk2 (.inr (by omega))
      refine K_seq ?_
      refine K_region ?_
      refine KV (R_assign rfl) rfl ?_
      refine K_nil ?_
      refine Q_then ?_
      refine K_ret ?_
      refine Q_then_ret ?_
      refine Q_block_ret ?_
      refine Q_then_ret ?_
      refine Q_then_ret ?_
      refine Q_block_ret ?_
      refine Q_then_ret ?_
      refine results_gen (rs := [.tmp 4]) (vs := [_]) rfl ⟨rfl, trivial⟩ ?_
      rw [hc, hend, if_neg (by omega), if_pos (by omega)]; rfl
    ·
      have hy1 : k < ys.length := by omega
      obtain ⟨yb, yo, hye, hya⟩ := (hw.mono hV).get hy1
      cases hye
      have hcx : cmpL (xs.drop k) (ys.drop k) = if xs[k] < ys[k] then -1 else if ys[k] < xs[k] then 1 else cmpL (xs.drop (k + 1)) (ys.drop (k + 1)) := by
        rw [List.drop_eq_getElem_cons hx1, List.drop_eq_getElem_cons hy1]; rfl
      refine K_skip ?_
      refine Q_then ?_
      refine K_seq ?_
      refine K_region ?_
      refine KV (R_move rfl) rfl ?_
      refine KV (R_move rfl) rfl ?_
      refine KV (R_indexN sl25 ty3 rfl rfl (by omega)) rfl ?_
      refine KV (R_loadH ty3 rfl (hya) rfl (fun _ => rfl) rfl) rfl ?_
      refine KV (R_assign rfl) rfl ?_
      refine K_nil ?_
      refine Q_then ?_
      refine K_seq ?_
      refine K_region ?_
      refine KV (R_move rfl) rfl ?_
      refine KV (R_move rfl) rfl ?_
      refine K_call c2071 rfl rfl (ccmp_spec xs[k] ys[k] V) ?_
      rintro _ V1 hv1 rfl
      refine KV (R_assign rfl) rfl ?_
      refine K_nil ?_
      refine Q_then ?_
      refine K_seq ?_
      refine K_region ?_
      refine KV (R_move rfl) rfl ?_
      refine KV (R_cmp rfl rfl rfl) rfl ?_
      refine K_nil ?_
      refine Q_then ?_
      refine K_if rfl (fun h28 => ?_) (fun h28 => ?_)
      ·
        refine K_seq ?_
        refine K_region ?_
        refine KV (R_move rfl) rfl ?_
        refine KV (R_assign rfl) rfl ?_
        refine K_nil ?_
        refine Q_then ?_
        refine K_ret ?_
        refine Q_block_ret ?_
        refine Q_then_ret ?_
        refine Q_then_ret ?_
        refine Q_block_ret ?_
        refine Q_then_ret ?_
        refine results_gen (rs := [.tmp 4]) (vs := [_]) rfl ⟨rfl, trivial⟩ ?_
        rw [hc, hcx]
        by_cases a1 : xs[k] < ys[k]
        · rw [if_pos a1, if_pos a1]; rfl
        · by_cases a2 : ys[k] < xs[k]
          · rw [if_neg a1, if_neg a1, if_pos a2, if_pos a2]; rfl
          · rw [if_neg a1, if_neg a2] at h28; exact absurd rfl h28
      ·
        have hn1 : ¬ xs[k] < ys[k] := by intro h; rw [if_pos h] at h28; exact h28 (by decide)
        have hn2 : ¬ ys[k] < xs[k] := by intro h; rw [if_neg hn1, if_pos h] at h28; exact h28 (by decide)
        refine K_skip ?_
        refine Q_block ?_
        refine Q_then ?_
        refine K_region ?_
        refine KV (R_add rfl rfl (by omega)) rfl ?_
        refine KV (R_move rfl) rfl ?_
        refine K_nil ?_
        refine Q_nextD (k + 1, V1) ⟨hx1, hy1, hV.trans hv1, by rw [hc, hcx, if_neg hn1, if_neg hn2]⟩ (by (try dsimp only); omega) ⟨rfl, trivial⟩ rfl rfl rfl
  ·
    have hend := cmpL_end hk1 hk2 (.inl (by omega))
    refine K_exit ?_
    refine Q_then_exit ?_
    refine Q_then_exit ?_
    refine Q_block_exit ?_
    refine Q_then ?_
    refine K_seq ?_
    refine K_seq ?_
    refine K_region ?_
    refine KV (R_move rfl) rfl ?_
    refine KV (R_len sl25 rfl) rfl ?_
    refine KV (R_move rfl) rfl ?_
    refine KV (R_len sl25 rfl) rfl ?_
    refine KV (R_cmp rfl rfl rfl) rfl ?_
    refine K_nil ?_
    refine Q_then ?_
    refine K_if rfl (fun h35 => ?_) (fun h35 => ?_)
    ·
      refine K_seq ?_
      refine K_region ?_
      refine KV (R_assign rfl) rfl ?_
      refine K_nil ?_
      refine Q_then ?_
      refine K_ret ?_
      refine Q_then_ret ?_
      refine results_gen (rs := [.tmp 4]) (vs := [_]) rfl ⟨rfl, trivial⟩ ?_
      rw [hc, hend, if_pos (by omega)]; rfl
    ·
      refine K_skip ?_
      refine Q_then ?_
      refine K_seq ?_
      refine K_region ?_
      refine KV (R_assign rfl) rfl ?_
      refine K_nil ?_
      refine Q_then ?_
      refine K_ret ?_
      refine results_gen (rs := [.tmp 4]) (vs := [_]) rfl ⟨rfl, trivial⟩ ?_
      rw [hc, hend, if_neg (by omega), if_neg (by omega)]; rfl
end Go.Proofs.X

namespace Go.Proofs.X
open Go Pal Go.Proofs
attribute [local irreducible] Pal.KO Pal.KC Pal.KQ Pal.KD
end Go.Proofs.X

namespace Go.Proofs.X
open Go Pal Go.Proofs
attribute [local irreducible] Pal.KO Pal.KC Pal.KQ Pal.KD
end Go.Proofs.X

namespace Go.Proofs.X
open Go Pal Go.Proofs
attribute [local irreducible] Pal.KO Pal.KC Pal.KQ Pal.KD
end Go.Proofs.X

namespace Go.Proofs.X
open Go Pal Go.Proofs
attribute [local irreducible] Pal.KO Pal.KC Pal.KQ Pal.KD
end Go.Proofs.X

namespace Go.Proofs.X
open Go Pal Go.Proofs
attribute [local irreducible] Pal.KO Pal.KC Pal.KQ Pal.KD
end Go.Proofs.X

namespace Go.Proofs.X
open Go Pal Go.Proofs
attribute [local irreducible] Pal.KO Pal.KC Pal.KQ Pal.KD
theorem c2044 : callable Tryz.prog F2044 = true := by kernel_rfl
theorem c2076 : callable Tryz.prog F2076 = true := by kernel_rfl
theorem or_spec (xs : List Int) (b : Nat) (H : View) (hl : xs.length ≤ 1099511627776) : SatO Tryz.prog F2076 #[slc xs.length b] H [blk b (.cells (ints xs).toArray T3 (0, 0))] (fun r _ q => q = [] ∧ r = .int .i64 ((xs.find? fun x => decide (x ≠ 0)).getD 0)) := by
  refine enterO (n := 18) (args := [slc xs.length b]) Tryz.func177 rfl rfl rfl fun w0 => ?_
  refine K_seq ?_
  refine K_region ?_
  refine KV (R_assign rfl) rfl ?_
  refine K_nil ?_
  refine Q_then ?_
  refine K_seq ?_
  refine K_region ?_
  refine KV (R_assign rfl) rfl ?_
  refine K_nil ?_
  refine Q_then ?_
  refine K_seq ?_
  refine K_seq ?_
  refine K_region ?_
  refine KV (R_move rfl) rfl ?_
  refine KV (R_len sl25 rfl) rfl ?_
  refine KV (R_move rfl) rfl ?_
  refine K_nil ?_
  refine Q_then ?_
  refine K_block ?_
  refine K_loopD (G := Nat) [2, 5, 8, 9, 10, 11, 12, 13, 14, 15, 16] (fun g => [(8, .int .i64 (g : Int))]) (fun hl g => hl) (fun g => H) (fun g => (g ≤ xs.length) ∧ (xs.find? (fun x => decide (x ≠ 0)) = (xs.drop g).find? fun x => decide (x ≠ 0))) (fun g => xs.length - g) (0 : Nat) ⟨Nat.zero_le _, rfl⟩ ⟨rfl, trivial⟩ (by simp only [args0, Nat.reduceAdd, del, memN, beqN, Nat.reduceBEq, cond_true, cond_false]; rfl) rfl rfl ?_
  rintro k ⟨hk, hc⟩
  try dsimp only at hk
  try dsimp only at hc
  dsimp only [List.set, List.cons_append, List.nil_append]
  refine K_seq ?_
  refine K_region ?_
  refine KV (R_cmp rfl rfl rfl) rfl ?_
  refine K_nil ?_
  refine Q_then ?_
  refine K_seq ?_
  refine K_if rfl (fun h9 => ?_) (fun h9 => ?_)
  ·
    have hk' : k < xs.length := by omega
    refine K_skip ?_
    refine Q_then ?_
    refine K_seq ?_
    refine K_block ?_
    refine K_seq ?_
    refine K_region ?_
    refine KV (R_indexN sl25 ty3 rfl rfl (by omega)) rfl ?_
    refine KV (R_loadC ty3 0 rfl rfl (by simp [ints, hk'] : ((ints xs).toArray)[(0 + k * 1)]? = some (.int .i64 xs[k]))) rfl ?_
    refine KV (R_assign rfl) rfl ?_
    refine K_nil ?_
    refine Q_then ?_
    refine K_seq ?_
    refine K_region ?_
    refine KV (R_move rfl) rfl ?_
    refine KV (R_move rfl) rfl ?_
    refine KV (R_cmp rfl rfl rfl) rfl ?_
    refine K_nil ?_
    refine Q_then ?_
    refine K_if rfl (fun h14 => ?_) (fun h14 => ?_)
    ·
      refine K_seq ?_
      refine K_region ?_
      refine KV (R_move rfl) rfl ?_
      refine KV (R_assign rfl) rfl ?_
      refine K_nil ?_
      refine Q_then ?_
      refine K_ret ?_
      refine Q_block_ret ?_
      refine Q_then_ret ?_
      refine Q_then_ret ?_
      refine Q_block_ret ?_
      refine Q_then_ret ?_
      refine results_sel [] rfl (rs := [.tmp 2]) (vs := [_]) rfl ⟨rfl, trivial⟩ ?_
      rw [hc, List.drop_eq_getElem_cons hk', List.find?_cons_of_pos (by simpa using h14)]
      exact ⟨rfl, rfl⟩
    ·
      have hc2 : xs.find? (fun x => decide (x ≠ 0)) = (xs.drop (k + 1)).find? fun x => decide (x ≠ 0) := by
        rw [hc, List.drop_eq_getElem_cons hk', List.find?_cons_of_neg (by simpa using h14)]
      refine K_skip ?_
      refine Q_block ?_
      refine Q_then ?_
      refine K_region ?_
      refine KV (R_add rfl rfl (by omega)) rfl ?_
      refine KV (R_move rfl) rfl ?_
      refine K_nil ?_
      refine Q_nextD ((k + 1)) ⟨hk', hc2⟩ (by (try dsimp only); omega) ⟨rfl, trivial⟩ rfl rfl rfl
  ·
    have hk' : k = xs.length := by omega
    refine K_exit ?_
    refine Q_then_exit ?_
    refine Q_then_exit ?_
    refine Q_block_exit ?_
    refine Q_then ?_
    refine K_seq ?_
    refine K_region ?_
    refine KV (R_move rfl) rfl ?_
    refine KV (R_assign rfl) rfl ?_
    refine K_nil ?_
    refine Q_then ?_
    refine K_ret ?_
    refine results_sel [] rfl (rs := [.tmp 2]) (vs := [_]) rfl ⟨rfl, trivial⟩ ?_
    rw [hc, hk', List.drop_length]
    exact ⟨rfl, rfl⟩

theorem order_spec (r s : Rl) (a a2 : Option Addr) (cp cp2 : Nat) (H : View) (hr : SI H (.slice a r.args.length cp) r.args) (hs : SI H (.slice a2 s.args.length cp2) s.args) (hrl : r.args.length ≤ 1099511627776) (hsl : s.args.length ≤ 1099511627776) :
    Sat Tryz.prog F2050 #[.agg #[.int .i64 r.sym, .slice a r.args.length cp, .int .i64 r.to], .agg #[.int .i64 s.sym, .slice a2 s.args.length cp2, .int .i64 s.to]] H (fun v _ => v = .int .i64 (ordR r s)) := by
  refine enterO (n := 22) (args := [.agg #[.int .i64 r.sym, .slice a r.args.length cp, .int .i64 r.to], .agg #[.int .i64 s.sym, .slice a2 s.args.length cp2, .int .i64 s.to]]) Tryz.func130 rfl rfl rfl fun w0 => ?_
  refine K_seq ?_
  refine K_region ?_
  refine KA (A_box rfl) rfl fun b2 => ?_
  refine KA (A_box rfl) rfl fun b3 => ?_
  refine KV (R_assign rfl) rfl ?_
  refine K_nil ?_
  refine Q_then ?_
  refine K_seq ?_
  refine K_regionD (fin := false) (R := [0, 1, 2, 3, 5, 6, 7, 8, 10, 11, 12, 13, 4, 9, 14, 15, 16, 17]) (by kernel_rfl) mixed (.cons_cons _ (.cons_cons _ (List.nil_sublist _))) ?_
  refine D_val rfl rfl rfl (R_fieldAddr 0 fd85_0 rfl) ?_
  refine D_val rfl rfl rfl (R_loadO ty3 1 rfl rfl rfl rfl (fun _ => rfl) rfl) ?_
  refine D_val rfl rfl rfl (R_fieldAddr 0 fd85_0 rfl) ?_
  refine D_val rfl rfl rfl (R_loadO ty3 0 rfl rfl rfl rfl (fun _ => rfl) rfl) ?_
  refine D_val rfl rfl rfl (R_fieldAddr 1 fd85_1 rfl) ?_
  refine D_val rfl rfl rfl (R_loadO ty25 1 rfl rfl rfl rfl (fun _ => rfl) rfl) ?_
  refine D_val rfl rfl rfl (R_fieldAddr 1 fd85_1 rfl) ?_
  refine D_val rfl rfl rfl (R_loadO ty25 0 rfl rfl rfl rfl (fun _ => rfl) rfl) ?_
  refine D_val rfl rfl rfl (R_fieldAddr 2 fd85_2 rfl) ?_
  refine D_val rfl rfl rfl (R_loadO ty3 1 rfl rfl rfl rfl (fun _ => rfl) rfl) ?_
  refine D_val rfl rfl rfl (R_fieldAddr 2 fd85_2 rfl) ?_
  refine D_val rfl rfl rfl (R_loadO ty3 0 rfl rfl rfl rfl (fun _ => rfl) rfl) ?_
  refine D_call rfl rfl c2071 rfl ⟨⟨0, rfl⟩, ⟨1, rfl⟩, trivial⟩ (ccmp_spec r.sym s.sym H) ?_
  rintro _ V1 hv1 rfl
  refine D_call rfl rfl c2044 rfl ⟨⟨0, rfl⟩, ⟨1, rfl⟩, trivial⟩ (compareI_spec r.args s.args _ _ V1 (hr.mono hv1) (hs.mono hv1) hrl hsl) ?_
  rintro _ V2 hv2 rfl
  refine D_call rfl rfl c2071 rfl ⟨⟨0, rfl⟩, ⟨1, rfl⟩, trivial⟩ (ccmp_spec r.to s.to V2) ?_
  rintro _ V3 hv3 rfl
  refine D_alloc rfl rfl rfl (A_buildSlice (vs := [.int .i64 (if r.sym < s.sym then -1 else if s.sym < r.sym then 1 else 0), .int .i64 (cmpL r.args s.args), .int .i64 (if r.to < s.to then -1 else if s.to < r.to then 1 else 0)]) sl25 ty3 z3 rfl rfl (by simp [Value.cells]) (by simp) rfl (by decide)) fun b20 => ?_
  refine D_callO (first := []) [_] _ rfl rfl c2076 rfl rfl (List.Perm.refl _) ⟨⟨0, rfl⟩, ⟨1, rfl⟩, trivial⟩ (or_spec [(if r.sym < s.sym then -1 else if s.sym < r.sym then 1 else 0), cmpL r.args s.args, (if r.to < s.to then -1 else if s.to < r.to then 1 else 0)] b20 V3 (by simp)) ?_
  rintro _ V4 q hle4 ⟨rfl, rfl⟩
  dsimp only [List.nil_append]
  refine D_val rfl rfl rfl (R_assign rfl) ?_
  refine D_done ?_
  refine Q_then ?_
  refine K_ret ?_
  refine results_gen (rs := [.tmp 4]) (vs := [_]) rfl ⟨rfl, trivial⟩ ?_
  refine congrArg (Value.int .i64) ?_
  unfold ordR
  by_cases h1 : r.sym < s.sym
  · simp [h1]
  · by_cases h2 : s.sym < r.sym
    · simp [h1, h2]
    · by_cases h3 : cmpL r.args s.args = 0
      · by_cases h4 : r.to < s.to
        · simp [h1, h2, h3, h4]
        · by_cases h5 : s.to < r.to
          · simp [h1, h2, h3, h4, h5]
          · simp [h1, h2, h3, h4, h5]
      · simp [h1, h2, h3]
end Go.Proofs.X

namespace Go.Proofs.X
open Go Pal Go.Proofs
attribute [local irreducible] Pal.KO Pal.KC Pal.KQ Pal.KD

theorem compactR1_spec (ps : List (Rl × Value)) (gb cap : Nat) (tail : List Value) (H : View) (gf : Nat) (hct : callable Tryz.prog gf = true) (hps : ∀ p ∈ ps, RVok H p) (heq : ∀ H2 p q, VLe H H2 → RVok H2 p → RVok H2 q → Sat Tryz.prog gf ([] ++ [Value.agg (cellRV p).toArray, .agg (cellRV q).toArray] ++ []).toArray H2 (fun r _ => r = .bool (eqP p q))) (hl : ps.length ≤ 1099511627776) (hc : ps.length ≤ cap) (hcm : cap ≤ maxLen) (hcl : (ps.flatMap cellRV ++ tail).length = cap * 3) :
    SatO Tryz.prog F2073 #[.slice (some ⟨gb, 0, none⟩) ps.length cap, .func (.func gf) #[] #[]] H [blk gb (.cells (ps.flatMap cellRV ++ tail).toArray T85 (0, 0))] (fun r _ q => ∃ a cap, r = .slice a (compF eqP none ps).length cap ∧ q = [row r T85 3 (compF eqP none ps).length ((compF eqP none ps).flatMap cellRV)]) := by
  have hpl := flat_len cellRV_len ps
  refine enterO (n := 66) (args := [.slice (some ⟨gb, 0, none⟩) ps.length cap, .func (.func gf) #[] #[]]) Tryz.func131 rfl rfl rfl fun w0 => ?_
  refine K_seq ?_
  refine K_region ?_
  refine KV (R_assign rfl) rfl ?_
  refine K_nil ?_
  refine Q_then ?_
  refine K_seq ?_
  refine K_seq ?_
  refine K_region ?_
  refine KV (R_move rfl) rfl ?_
  refine KV (R_len sl48 rfl) rfl ?_
  refine KV (R_cmp rfl rfl rfl) rfl ?_
  refine K_nil ?_
  refine Q_then ?_
  refine K_if rfl (fun h0 => ?_) (fun h0 => ?_)
  ·
    have hsh : ps.length < 2 := by omega
    refine K_seq ?_
    refine K_region ?_
    refine KV (R_move rfl) rfl ?_
    refine KV (R_assign rfl) rfl ?_
    refine K_nil ?_
    refine Q_then ?_
    refine K_ret ?_
    refine Q_then_ret ?_
    refine KQ_shutRow (sz := 3) (k := ps.length) hc hcm hpl (by simpa using hcl) (by simpa using flat_take cellRV_len ps tail (Nat.le_refl _)) ?_
    refine results_sel [0] rfl (rs := [.tmp 4]) (vs := [_]) rfl ⟨rfl, trivial⟩ ?_
    have e := compF_all (eq := eqP) (xs := ps) (k := ps.length) (Nat.le_refl _) (fun j h h1 h2 => by omega)
    rw [List.take_length] at e
    rw [e]
    exact ⟨_, _, rfl, rfl⟩
  ·
    have hsh : 2 ≤ ps.length := by omega
    refine K_skip ?_
    refine Q_then ?_
    refine K_seq ?_
    refine K_seq ?_
    refine K_region ?_
    refine KV (R_assign rfl) rfl ?_
    refine K_nil ?_
    refine Q_then ?_
    refine K_block ?_
    refine K_loopD (G := Nat × View) [4, 5, 6, 7, 12, 13, 14, 15, 16, 17, 18, 19, 20, 21, 22, 23, 24, 25, 26, 27, 28, 29, 30, 31, 32, 33, 34, 35, 36, 37, 38, 39, 40, 41, 42, 43, 44, 45, 46, 47, 48, 49, 50, 51, 52, 53, 54, 55, 56, 57, 58, 59, 60, 61, 62, 63, 64] (fun g => [(5, .int .i64 (g.1 : Int))]) (fun hl g => hl) (fun g => g.2) (fun g => (1 ≤ g.1) ∧ (g.1 ≤ ps.length) ∧ (VLe H g.2) ∧ (∀ j (h : j < ps.length), 0 < j → j < g.1 → eqP ps[j] ps[j - 1] = false)) (fun g => ps.length - g.1) (1, H) ⟨Nat.le_refl _, by omega, VLe.refl _, fun j h h1 h2 => by omega⟩ ⟨rfl, trivial⟩ (by simp only [args0, Nat.reduceAdd, del, memN, beqN, Nat.reduceBEq, cond_true, cond_false]; rfl) rfl rfl ?_
    rintro ⟨k, V⟩ ⟨hk1, hk, hV, hall⟩
    dsimp only at hk1 hk hV hall
    dsimp only [List.set, List.cons_append, List.nil_append]
    refine K_seq ?_
    refine K_seq ?_
    refine K_region ?_
    refine KV (R_move rfl) rfl ?_
    refine KV (R_move rfl) rfl ?_
    refine KV (R_len sl48 rfl) rfl ?_
    refine KV (R_cmp rfl rfl rfl) rfl ?_
    refine K_nil ?_
    refine Q_then ?_
    refine K_if rfl (fun h1 => ?_) (fun h1 => ?_)
    ·
      have hk' : k < ps.length := by omega
      refine K_skip ?_
      refine Q_then ?_
      refine K_seq ?_
      refine K_block ?_
      refine K_seq ?_
      refine K_regionD (fin := false) (R := [0, 1, 2, 3, 4, 5, 6, 7, 8, 9, 10]) (by kernel_rfl) mixed (.cons_cons _ (List.nil_sublist _)) ?_
      refine D_val rfl rfl rfl (R_move rfl) ?_
      refine D_val rfl rfl rfl (R_move rfl) ?_
      refine D_val rfl rfl rfl (R_move rfl) ?_
      refine D_val rfl rfl rfl (R_indexN sl48 ty85 rfl rfl (by omega)) ?_
      refine D_val rfl rfl rfl (R_loadO ty85 0 rfl rfl (flat_get cellRV_len ps tail (i := k) (by omega) (by omega)) rfl (fun e => by cases e) rfl) ?_
      refine D_val rfl rfl rfl (R_move rfl) ?_
      refine D_val rfl rfl rfl (R_move rfl) ?_
      refine D_val rfl rfl rfl (R_sub rfl rfl (by omega)) ?_
      refine D_val rfl rfl rfl (R_index sl48 ty85 rfl rfl ⟨by omega, by omega⟩) ?_
      refine D_val rfl rfl rfl (R_loadO ty85 0 rfl rfl (flat_get cellRV_len ps tail (i := k - 1) (by omega) (by omega)) rfl (fun e => by cases e) rfl) ?_
      refine D_callV rfl rfl hct rfl rfl ⟨⟨0, rfl⟩, trivial⟩ (heq V ps[k] ps[k - 1] (hV) ((hps _ (List.getElem_mem (by omega))).mono (hV)) ((hps _ (List.getElem_mem (by omega))).mono (hV))) ?_
      rintro _ V1 hvV1 rfl
      refine D_done ?_
      refine Q_then ?_
      refine K_ifB rfl (fun heq1 => ?_) (fun heq1 => ?_)
      ·
        refine K_seq ?_
        refine K_region ?_
        refine KV (R_move rfl) rfl ?_
        refine KV (R_move rfl) rfl ?_
        refine KV (R_sliceLoE (m := k) sl48 ty85 rfl rfl (by omega) (by omega)) rfl ?_
        refine KV (R_assign rfl) rfl ?_
        refine K_nil ?_
        refine Q_then ?_
        refine K_seq ?_
        refine K_seq ?_
        refine K_region ?_
        refine KV (R_assign rfl) rfl ?_
        refine K_nil ?_
        refine Q_then ?_
        refine K_block ?_
        refine K_loopD (G := Nat × Nat × (List (Rl × Value)) × View) [5, 7, 32, 33, 34, 35, 36, 37, 38, 39, 40, 41, 42, 43, 44, 45, 46, 47, 48, 49, 50, 51, 52, 53, 54, 55, 56, 57, 58] (fun g => [(7, .int .i64 (g.1 : Int)), (5, .int .i64 (g.2.1 : Int))]) (fun hl g => (hl.set 0 (blk gb (.cells (g.2.2.1.flatMap cellRV ++ tail).toArray T85 (0, 0))))) (fun g => g.2.2.2) (fun g => (1 ≤ g.1) ∧ (CpI eqP ps g.2.2.1 g.2.1 (k + g.1)) ∧ (VLe H g.2.2.2)) (fun g => ps.length - (k + g.1)) (1, k, ps, V1) ⟨Nat.le_refl _, CpI.start (show 0 < k by omega) hk' hall heq1, hV.trans hvV1⟩ ⟨rfl, rfl, trivial⟩ (by simp only [args0, Nat.reduceAdd, del, memN, beqN, Nat.reduceBEq, cond_true, cond_false]; rfl) rfl rfl ?_
        rintro ⟨rr, wr, its, V2⟩ ⟨hr1, hcp, hV2⟩
        dsimp only at hr1 hcp hV2
        dsimp only [List.set, List.cons_append, List.nil_append]
        have hcpl := hcp.len
        have hcpw := hcp.wm
        have hcpm := hcp.mn
        have hBs : ((its.flatMap cellRV ++ tail).toArray).size = cap * 3 := by
          rw [List.size_toArray, List.length_append, flat_len cellRV_len, hcp.len]
          rw [List.length_append, flat_len cellRV_len] at hcl
          exact hcl
        refine K_seq ?_
        refine K_seq ?_
        refine K_region ?_
        refine KV (R_move rfl) rfl ?_
        refine KV (R_move rfl) rfl ?_
        refine KV (R_len sl48 rfl) rfl ?_
        refine KV (R_cmp rfl rfl rfl) rfl ?_
        refine K_nil ?_
        refine Q_then ?_
        refine K_if rfl (fun h2 => ?_) (fun h2 => ?_)
        ·
          have hr' : k + rr < ps.length := by omega
          refine K_skip ?_
          refine Q_then ?_
          refine K_seq ?_
          refine K_block ?_
          refine K_seq ?_
          refine K_regionD (fin := false) (R := [0, 1, 2, 3, 4, 5, 6, 7, 8, 9, 10, 11]) (by kernel_rfl) mixed (.cons_cons _ (List.nil_sublist _)) ?_
          refine D_val rfl rfl rfl (R_move rfl) ?_
          refine D_val rfl rfl rfl (R_move rfl) ?_
          refine D_val rfl rfl rfl (R_move rfl) ?_
          refine D_val rfl rfl rfl (R_indexN sl48 ty85 rfl rfl (by omega)) ?_
          refine D_val rfl rfl rfl (R_loadO ty85 0 rfl rfl ((flat_get cellRV_len its tail (i := k + rr) (by omega) (by omega)).trans (congrArg cellRV (hcp.todo (k + rr) (by omega) (by omega)))) rfl (fun e => by cases e) rfl) ?_
          refine D_val rfl rfl rfl (R_move rfl) ?_
          refine D_val rfl rfl rfl (R_move rfl) ?_
          refine D_val rfl rfl rfl (R_sub rfl rfl (by omega)) ?_
          refine D_val rfl rfl rfl (R_index sl48 ty85 rfl rfl ⟨by omega, by omega⟩) ?_
          refine D_val rfl rfl rfl (R_loadO ty85 0 rfl rfl ((flat_get cellRV_len its tail (i := k + rr - 1) (by omega) (by omega)).trans (congrArg cellRV (hcp.todo (k + rr - 1) (by omega) (by omega)))) rfl (fun e => by cases e) rfl) ?_
          refine D_callV rfl rfl hct rfl rfl ⟨⟨0, rfl⟩, trivial⟩ (heq V2 ps[k + rr] ps[k + rr - 1] (hV2) ((hps _ (List.getElem_mem (by omega))).mono (hV2)) ((hps _ (List.getElem_mem (by omega))).mono (hV2))) ?_
          rintro _ V3 hvV3 rfl
          refine D_val rfl rfl rfl (R_notP rfl) ?_
          refine D_done ?_
          refine Q_then ?_
          refine K_ifB rfl (fun hne1 => ?_) (fun hne1 => ?_)
          ·
            have hd : eqP ps[k + rr] ps[k + rr - 1] = false := by simpa [eqP] using hne1
            refine K_seq ?_
            refine K_region ?_
            refine KV (R_move rfl) rfl ?_
            refine KV (R_move rfl) rfl ?_
            refine KV (R_move rfl) rfl ?_
            refine KV (R_move rfl) rfl ?_
            refine KV (R_indexN sl48 ty85 rfl rfl (by omega)) rfl ?_
            refine KV (R_loadO ty85 0 rfl rfl ((flat_get cellRV_len its tail (i := k + rr) (by omega) (by omega)).trans (congrArg cellRV (hcp.todo (k + rr) (by omega) (by omega)))) rfl (fun e => by cases e) rfl) rfl ?_
            refine KV (R_indexN sl48 ty85 rfl rfl (by omega)) rfl ?_
            refine K_storeE ty85 0 rfl rfl rfl rfl (show 0 + wr * 3 + 3 ≤ _ by rw [hBs]; omega) ((hps _ (List.getElem_mem (show k + rr < ps.length by omega))).one) (flat_put cellRV_len its tail (i := wr) (by omega) ps[k + rr] (by omega) rfl) ?_
            refine K_nil ?_
            refine Q_then ?_
            refine K_region ?_
            refine KV (R_move rfl) rfl ?_
            refine KV (R_add rfl rfl (by omega)) rfl ?_
            refine KV (R_assign rfl) rfl ?_
            refine K_nil ?_
            refine Q_block ?_
            refine Q_then ?_
            refine K_region ?_
            refine KV (R_move rfl) rfl ?_
            refine KV (R_add rfl rfl (by omega)) rfl ?_
            refine KV (R_assign rfl) rfl ?_
            refine K_nil ?_
            refine Q_nextD (rr + 1, wr + 1, its.set wr ps[k + rr], V3) ⟨by dsimp only; omega, hcp.keep hr' hd, hV2.trans hvV3⟩ (by (try dsimp only); omega) ⟨rfl, rfl, trivial⟩ rfl rfl rfl
          ·
            have hd : eqP ps[k + rr] ps[k + rr - 1] = true := by simpa [eqP] using hne1
            refine K_skip ?_
            refine Q_block ?_
            refine Q_then ?_
            refine K_region ?_
            refine KV (R_move rfl) rfl ?_
            refine KV (R_add rfl rfl (by omega)) rfl ?_
            refine KV (R_assign rfl) rfl ?_
            refine K_nil ?_
            refine Q_nextD (rr + 1, wr, its, V3) ⟨by dsimp only; omega, hcp.skip hr' hd, hV2.trans hvV3⟩ (by (try dsimp only); omega) ⟨rfl, rfl, trivial⟩ rfl rfl rfl
        ·
          have hr' : k + rr = ps.length := by omega
          refine K_exit ?_
          refine Q_then_exit ?_
          refine Q_then_exit ?_
          refine Q_block_exit ?_
          refine Q_then ?_
          refine K_seq ?_
          refine K_region ?_
          refine KV (R_move rfl) rfl ?_
          refine KV (R_move rfl) rfl ?_
          refine KV (R_sliceLoE (m := wr) sl48 ty85 rfl rfl (by omega) (by omega)) rfl ?_
          refine K_clear 0 (m := 3) sl48 z85 (by simp [Value.cells, Value.oneCell']) rfl rfl rfl (by rw [hBs]; omega) fun cur hcz hct2 => ?_
          refine K_nil ?_
          refine Q_then ?_
          refine K_seq ?_
          refine K_region ?_
          refine KV (R_move rfl) rfl ?_
          refine KV (R_move rfl) rfl ?_
          refine KV (R_sliceHiE (m := wr) sl48 ty85 rfl rfl (by omega)) rfl ?_
          refine KV (R_assign rfl) rfl ?_
          refine K_nil ?_
          refine Q_then ?_
          refine K_ret ?_
          refine Q_block_ret ?_
          refine Q_then_ret ?_
          refine Q_then_ret ?_
          refine Q_block_ret ?_
          refine Q_then_ret ?_
          have hdone := hcp.done
          rw [hr', List.take_length] at hdone
          have hwl : (its.take wr).length = wr := by rw [List.length_take]; omega
          have hits := flat_len cellRV_len its
          refine KQ_shutRow (sz := 3) (k := wr) (xs := (its.take wr).flatMap cellRV) (by omega) hcm (by rw [flat_len cellRV_len, hwl]) (by rw [hcz]; exact hBs) (by rw [show wr * 3 = 0 + wr * 3 by omega, hct2, Nat.zero_add]; exact flat_take cellRV_len its tail (by omega)) ?_
          refine results_sel [0] rfl (rs := [.tmp 4]) (vs := [_]) rfl ⟨rfl, trivial⟩ ?_
          rw [← hdone, hwl]
          exact ⟨_, _, rfl, rfl⟩
      ·
        have hall2 : ∀ j (h : j < ps.length), 0 < j → j < k + 1 → eqP ps[j] ps[j - 1] = false := by
          intro j h hj hjk
          by_cases e : j = k
          · subst e; exact heq1
          · exact hall j h hj (by omega)
        refine K_skip ?_
        refine Q_block ?_
        refine Q_then ?_
        refine K_region ?_
        refine KV (R_move rfl) rfl ?_
        refine KV (R_add rfl rfl (by omega)) rfl ?_
        refine KV (R_assign rfl) rfl ?_
        refine K_nil ?_
        refine Q_nextD (k + 1, V1) ⟨by dsimp only; omega, hk', hV.trans hvV1, hall2⟩ (by (try dsimp only); omega) ⟨rfl, trivial⟩ rfl rfl rfl
    ·
      have hk' : k = ps.length := by omega
      refine K_exit ?_
      refine Q_then_exit ?_
      refine Q_then_exit ?_
      refine Q_block_exit ?_
      refine Q_then ?_
      refine K_seq ?_
      refine K_region ?_
      refine KV (R_move rfl) rfl ?_
      refine KV (R_assign rfl) rfl ?_
      refine K_nil ?_
      refine Q_then ?_
      refine K_ret ?_
      refine KQ_shutRow (sz := 3) (k := ps.length) hc hcm hpl (by simpa using hcl) (by simpa using flat_take cellRV_len ps tail (Nat.le_refl _)) ?_
      refine results_sel [0] rfl (rs := [.tmp 4]) (vs := [_]) rfl ⟨rfl, trivial⟩ ?_
      have e := compF_all (eq := eqP) (xs := ps) (k := ps.length) (Nat.le_refl _) (fun j h h1 h2 => hall j h h1 (by omega))
      rw [List.take_length] at e
      rw [e]
      exact ⟨_, _, rfl, rfl⟩

theorem compactR0_spec (gf : Nat) (H : View) : SatO Tryz.prog F2073 #[nilS, .func (.func gf) #[] #[]] H [] (fun r _ q => r = nilS ∧ q = [row nilS T85 3 0 []]) := by
  refine enterO (n := 66) (args := [nilS, .func (.func gf) #[] #[]]) Tryz.func131 rfl rfl rfl fun w0 => ?_
  refine K_seq ?_
  refine K_region ?_
  refine KV (R_assign rfl) rfl ?_
  refine K_nil ?_
  refine Q_then ?_
  refine K_seq ?_
  refine K_seq ?_
  refine K_region ?_
  refine KV (R_move rfl) rfl ?_
  refine KV (R_len sl48 rfl) rfl ?_
  refine KV (R_cmp rfl rfl rfl) rfl ?_
  refine K_nil ?_
  refine Q_then ?_
  refine K_if rfl (fun h0 => ?_) (fun h0 => ?_)
  ·
    refine K_seq ?_
    refine K_region ?_
    refine KV (R_move rfl) rfl ?_
    refine KV (R_assign rfl) rfl ?_
    refine K_nil ?_
    refine Q_then ?_
    refine K_ret ?_
    refine Q_then_ret ?_
    refine KQ_nilrow T85 3 ?_
    refine results_gen (rs := [.tmp 4]) (vs := [_]) rfl ⟨rfl, trivial⟩ ?_
    exact ⟨rfl, rfl⟩
  ·
    exact absurd (by omega) h0

theorem compactI1_spec (ps : List (Int)) (gb cap : Nat) (tail : List Value) (H : View)  (hl : ps.length ≤ 1099511627776) (hc : ps.length ≤ cap) (hcm : cap ≤ maxLen) (hcl : (ps.flatMap cellI ++ tail).length = cap * 1) :
    SatO Tryz.prog F2075 #[.slice (some ⟨gb, 0, none⟩) ps.length cap] H [blk gb (.cells (ps.flatMap cellI ++ tail).toArray T3 (0, 0))] (fun r _ q => ∃ a cap, r = .slice a (compF eqI none ps).length cap ∧ q = [row r T3 1 (compF eqI none ps).length ((compF eqI none ps).flatMap cellI)]) := by
  have hpl := flat_len cellI_len ps
  refine enterO (n := 61) (args := [.slice (some ⟨gb, 0, none⟩) ps.length cap]) Tryz.func134 rfl rfl rfl fun w0 => ?_
  refine K_seq ?_
  refine K_region ?_
  refine KV (R_assign rfl) rfl ?_
  refine K_nil ?_
  refine Q_then ?_
  refine K_seq ?_
  refine K_seq ?_
  refine K_region ?_
  refine KV (R_move rfl) rfl ?_
  refine KV (R_len sl25 rfl) rfl ?_
  refine KV (R_cmp rfl rfl rfl) rfl ?_
  refine K_nil ?_
  refine Q_then ?_
  refine K_if rfl (fun h0 => ?_) (fun h0 => ?_)
  ·
    have hsh : ps.length < 2 := by omega
    refine K_seq ?_
    refine K_region ?_
    refine KV (R_move rfl) rfl ?_
    refine KV (R_assign rfl) rfl ?_
    refine K_nil ?_
    refine Q_then ?_
    refine K_ret ?_
    refine Q_then_ret ?_
    refine KQ_shutRow (sz := 1) (k := ps.length) hc hcm hpl (by simpa using hcl) (by simpa using flat_take cellI_len ps tail (Nat.le_refl _)) ?_
    refine results_sel [0] rfl (rs := [.tmp 2]) (vs := [_]) rfl ⟨rfl, trivial⟩ ?_
    have e := compF_all (eq := eqI) (xs := ps) (k := ps.length) (Nat.le_refl _) (fun j h h1 h2 => by omega)
    rw [List.take_length] at e
    rw [e]
    exact ⟨_, _, rfl, rfl⟩
  ·
    have hsh : 2 ≤ ps.length := by omega
    refine K_skip ?_
    refine Q_then ?_
    refine K_seq ?_
    refine K_seq ?_
    refine K_region ?_
    refine KV (R_assign rfl) rfl ?_
    refine K_nil ?_
    refine Q_then ?_
    refine K_block ?_
    refine K_loopD (G := Nat × View) [2, 3, 4, 5, 10, 11, 12, 13, 14, 15, 16, 17, 18, 19, 20, 21, 22, 23, 24, 25, 26, 27, 28, 29, 30, 31, 32, 33, 34, 35, 36, 37, 38, 39, 40, 41, 42, 43, 44, 45, 46, 47, 48, 49, 50, 51, 52, 53, 54, 55, 56, 57, 58, 59] (fun g => [(3, .int .i64 (g.1 : Int))]) (fun hl g => hl) (fun g => g.2) (fun g => (1 ≤ g.1) ∧ (g.1 ≤ ps.length) ∧ (VLe H g.2) ∧ (∀ j (h : j < ps.length), 0 < j → j < g.1 → eqI ps[j] ps[j - 1] = false)) (fun g => ps.length - g.1) (1, H) ⟨Nat.le_refl _, by omega, VLe.refl _, fun j h h1 h2 => by omega⟩ ⟨rfl, trivial⟩ (by simp only [args0, Nat.reduceAdd, del, memN, beqN, Nat.reduceBEq, cond_true, cond_false]; rfl) rfl rfl ?_
    rintro ⟨k, V⟩ ⟨hk1, hk, hV, hall⟩
    dsimp only at hk1 hk hV hall
    dsimp only [List.set, List.cons_append, List.nil_append]
    refine K_seq ?_
    refine K_seq ?_
    refine K_region ?_
    refine KV (R_move rfl) rfl ?_
    refine KV (R_move rfl) rfl ?_
    refine KV (R_len sl25 rfl) rfl ?_
    refine KV (R_cmp rfl rfl rfl) rfl ?_
    refine K_nil ?_
    refine Q_then ?_
    refine K_if rfl (fun h1 => ?_) (fun h1 => ?_)
    ·
      have hk' : k < ps.length := by omega
      refine K_skip ?_
      refine Q_then ?_
      refine K_seq ?_
      refine K_block ?_
      refine K_seq ?_
      refine K_regionD (fin := false) (R := [0, 1, 2, 3, 4, 5, 6, 7, 8, 9]) (by kernel_rfl) mixed (.cons_cons _ (List.nil_sublist _)) ?_
      refine D_val rfl rfl rfl (R_move rfl) ?_
      refine D_val rfl rfl rfl (R_move rfl) ?_
      refine D_val rfl rfl rfl (R_indexN sl25 ty3 rfl rfl (by omega)) ?_
      refine D_val rfl rfl rfl (R_loadO ty3 0 rfl rfl (flat_get cellI_len ps tail (i := k) (by omega) (by omega)) rfl (fun _ => rfl) rfl) ?_
      refine D_val rfl rfl rfl (R_move rfl) ?_
      refine D_val rfl rfl rfl (R_move rfl) ?_
      refine D_val rfl rfl rfl (R_sub rfl rfl (by omega)) ?_
      refine D_val rfl rfl rfl (R_index sl25 ty3 rfl rfl ⟨by omega, by omega⟩) ?_
      refine D_val rfl rfl rfl (R_loadO ty3 0 rfl rfl (flat_get cellI_len ps tail (i := k - 1) (by omega) (by omega)) rfl (fun _ => rfl) rfl) ?_
      refine D_val rfl rfl rfl (R_cmp rfl rfl rfl) ?_
      refine D_done ?_
      refine Q_then ?_
      refine K_if rfl (fun heq1 => ?_) (fun heq1 => ?_)
      ·
        have heq1 := decide_eq_true heq1
        refine K_seq ?_
        refine K_region ?_
        refine KV (R_move rfl) rfl ?_
        refine KV (R_move rfl) rfl ?_
        refine KV (R_sliceLoE (m := k) sl25 ty3 rfl rfl (by omega) (by omega)) rfl ?_
        refine KV (R_assign rfl) rfl ?_
        refine K_nil ?_
        refine Q_then ?_
        refine K_seq ?_
        refine K_seq ?_
        refine K_region ?_
        refine KV (R_assign rfl) rfl ?_
        refine K_nil ?_
        refine Q_then ?_
        refine K_block ?_
        refine K_loopD (G := Nat × Nat × List (Int) × View) [3, 5, 29, 30, 31, 32, 33, 34, 35, 36, 37, 38, 39, 40, 41, 42, 43, 44, 45, 46, 47, 48, 49, 50, 51, 52, 53] (fun g => [(5, .int .i64 (g.1 : Int)), (3, .int .i64 (g.2.1 : Int))]) (fun hl g => (hl.set 0 (blk gb (.cells (g.2.2.1.flatMap cellI ++ tail).toArray T3 (0, 0))))) (fun g => g.2.2.2) (fun g => (1 ≤ g.1) ∧ (CpI eqI ps g.2.2.1 g.2.1 (k + g.1)) ∧ (VLe H g.2.2.2)) (fun g => ps.length - (k + g.1)) (1, k, ps, V) ⟨Nat.le_refl _, CpI.start (show 0 < k by omega) hk' hall heq1, hV⟩ ⟨rfl, rfl, trivial⟩ (by simp only [args0, Nat.reduceAdd, del, memN, beqN, Nat.reduceBEq, cond_true, cond_false]; rfl) rfl rfl ?_
        rintro ⟨rr, wr, its, V2⟩ ⟨hr1, hcp, hV2⟩
        dsimp only at hr1 hcp hV2
        dsimp only [List.set, List.cons_append, List.nil_append]
        have hcpl := hcp.len
        have hcpw := hcp.wm
        have hcpm := hcp.mn
        have hBs : ((its.flatMap cellI ++ tail).toArray).size = cap * 1 := by
          rw [List.size_toArray, List.length_append, flat_len cellI_len, hcp.len]
          rw [List.length_append, flat_len cellI_len] at hcl
          exact hcl
        refine K_seq ?_
        refine K_seq ?_
        refine K_region ?_
        refine KV (R_move rfl) rfl ?_
        refine KV (R_move rfl) rfl ?_
        refine KV (R_len sl25 rfl) rfl ?_
        refine KV (R_cmp rfl rfl rfl) rfl ?_
        refine K_nil ?_
        refine Q_then ?_
        refine K_if rfl (fun h2 => ?_) (fun h2 => ?_)
        ·
          have hr' : k + rr < ps.length := by omega
          refine K_skip ?_
          refine Q_then ?_
          refine K_seq ?_
          refine K_block ?_
          refine K_seq ?_
          refine K_regionD (fin := false) (R := [0, 1, 2, 3, 4, 5, 6, 7, 8, 9]) (by kernel_rfl) mixed (.cons_cons _ (List.nil_sublist _)) ?_
          refine D_val rfl rfl rfl (R_move rfl) ?_
          refine D_val rfl rfl rfl (R_move rfl) ?_
          refine D_val rfl rfl rfl (R_indexN sl25 ty3 rfl rfl (by omega)) ?_
          refine D_val rfl rfl rfl (R_loadO ty3 0 rfl rfl ((flat_get cellI_len its tail (i := k + rr) (by omega) (by omega)).trans (congrArg cellI (hcp.todo (k + rr) (by omega) (by omega)))) rfl (fun _ => rfl) rfl) ?_
          refine D_val rfl rfl rfl (R_move rfl) ?_
          refine D_val rfl rfl rfl (R_move rfl) ?_
          refine D_val rfl rfl rfl (R_sub rfl rfl (by omega)) ?_
          refine D_val rfl rfl rfl (R_index sl25 ty3 rfl rfl ⟨by omega, by omega⟩) ?_
          refine D_val rfl rfl rfl (R_loadO ty3 0 rfl rfl ((flat_get cellI_len its tail (i := k + rr - 1) (by omega) (by omega)).trans (congrArg cellI (hcp.todo (k + rr - 1) (by omega) (by omega)))) rfl (fun _ => rfl) rfl) ?_
          refine D_val rfl rfl rfl (R_cmp rfl rfl rfl) ?_
          refine D_done ?_
          refine Q_then ?_
          refine K_if rfl (fun hne1 => ?_) (fun hne1 => ?_)
          ·
            have hd : eqI ps[k + rr] ps[k + rr - 1] = false := by simpa [eqI] using hne1
            refine K_seq ?_
            refine K_region ?_
            refine KV (R_move rfl) rfl ?_
            refine KV (R_move rfl) rfl ?_
            refine KV (R_move rfl) rfl ?_
            refine KV (R_move rfl) rfl ?_
            refine KV (R_indexN sl25 ty3 rfl rfl (by omega)) rfl ?_
            refine KV (R_loadO ty3 0 rfl rfl ((flat_get cellI_len its tail (i := k + rr) (by omega) (by omega)).trans (congrArg cellI (hcp.todo (k + rr) (by omega) (by omega)))) rfl (fun _ => rfl) rfl) rfl ?_
            refine KV (R_indexN sl25 ty3 rfl rfl (by omega)) rfl ?_
            refine K_storeE ty3 0 rfl rfl rfl rfl (show 0 + wr * 1 + 1 ≤ _ by rw [hBs]; omega) (rfl) (flat_put cellI_len its tail (i := wr) (by omega) ps[k + rr] (by omega) rfl) ?_
            refine K_nil ?_
            refine Q_then ?_
            refine K_region ?_
            refine KV (R_move rfl) rfl ?_
            refine KV (R_add rfl rfl (by omega)) rfl ?_
            refine KV (R_assign rfl) rfl ?_
            refine K_nil ?_
            refine Q_block ?_
            refine Q_then ?_
            refine K_region ?_
            refine KV (R_move rfl) rfl ?_
            refine KV (R_add rfl rfl (by omega)) rfl ?_
            refine KV (R_assign rfl) rfl ?_
            refine K_nil ?_
            refine Q_nextD (rr + 1, wr + 1, its.set wr ps[k + rr], V2) ⟨by dsimp only; omega, hcp.keep hr' hd, hV2⟩ (by (try dsimp only); omega) ⟨rfl, rfl, trivial⟩ rfl rfl rfl
          ·
            have hd : eqI ps[k + rr] ps[k + rr - 1] = true := by simpa [eqI] using hne1
            refine K_skip ?_
            refine Q_block ?_
            refine Q_then ?_
            refine K_region ?_
            refine KV (R_move rfl) rfl ?_
            refine KV (R_add rfl rfl (by omega)) rfl ?_
            refine KV (R_assign rfl) rfl ?_
            refine K_nil ?_
            refine Q_nextD (rr + 1, wr, its, V2) ⟨by dsimp only; omega, hcp.skip hr' hd, hV2⟩ (by (try dsimp only); omega) ⟨rfl, rfl, trivial⟩ rfl rfl rfl
        ·
          have hr' : k + rr = ps.length := by omega
          refine K_exit ?_
          refine Q_then_exit ?_
          refine Q_then_exit ?_
          refine Q_block_exit ?_
          refine Q_then ?_
          refine K_seq ?_
          refine K_region ?_
          refine KV (R_move rfl) rfl ?_
          refine KV (R_move rfl) rfl ?_
          refine KV (R_sliceLoE (m := wr) sl25 ty3 rfl rfl (by omega) (by omega)) rfl ?_
          refine K_clear 0 (m := 1) sl25 z3 (by simp [Value.cells, Value.oneCell']) rfl rfl rfl (by rw [hBs]; omega) fun cur hcz hct2 => ?_
          refine K_nil ?_
          refine Q_then ?_
          refine K_seq ?_
          refine K_region ?_
          refine KV (R_move rfl) rfl ?_
          refine KV (R_move rfl) rfl ?_
          refine KV (R_sliceHiE (m := wr) sl25 ty3 rfl rfl (by omega)) rfl ?_
          refine KV (R_assign rfl) rfl ?_
          refine K_nil ?_
          refine Q_then ?_
          refine K_ret ?_
          refine Q_block_ret ?_
          refine Q_then_ret ?_
          refine Q_then_ret ?_
          refine Q_block_ret ?_
          refine Q_then_ret ?_
          have hdone := hcp.done
          rw [hr', List.take_length] at hdone
          have hwl : (its.take wr).length = wr := by rw [List.length_take]; omega
          have hits := flat_len cellI_len its
          refine KQ_shutRow (sz := 1) (k := wr) (xs := (its.take wr).flatMap cellI) (by omega) hcm (by rw [flat_len cellI_len, hwl]) (by rw [hcz]; exact hBs) (by rw [show wr * 1 = 0 + wr * 1 by omega, hct2, Nat.zero_add]; exact flat_take cellI_len its tail (by omega)) ?_
          refine results_sel [0] rfl (rs := [.tmp 2]) (vs := [_]) rfl ⟨rfl, trivial⟩ ?_
          rw [← hdone, hwl]
          exact ⟨_, _, rfl, rfl⟩
      ·
        have heq1 := decide_eq_false heq1
        have hall2 : ∀ j (h : j < ps.length), 0 < j → j < k + 1 → eqI ps[j] ps[j - 1] = false := by
          intro j h hj hjk
          by_cases e : j = k
          · subst e; exact heq1
          · exact hall j h hj (by omega)
        refine K_skip ?_
        refine Q_block ?_
        refine Q_then ?_
        refine K_region ?_
        refine KV (R_move rfl) rfl ?_
        refine KV (R_add rfl rfl (by omega)) rfl ?_
        refine KV (R_assign rfl) rfl ?_
        refine K_nil ?_
        refine Q_nextD (k + 1, V) ⟨by dsimp only; omega, hk', hV, hall2⟩ (by (try dsimp only); omega) ⟨rfl, trivial⟩ rfl rfl rfl
    ·
      have hk' : k = ps.length := by omega
      refine K_exit ?_
      refine Q_then_exit ?_
      refine Q_then_exit ?_
      refine Q_block_exit ?_
      refine Q_then ?_
      refine K_seq ?_
      refine K_region ?_
      refine KV (R_move rfl) rfl ?_
      refine KV (R_assign rfl) rfl ?_
      refine K_nil ?_
      refine Q_then ?_
      refine K_ret ?_
      refine KQ_shutRow (sz := 1) (k := ps.length) hc hcm hpl (by simpa using hcl) (by simpa using flat_take cellI_len ps tail (Nat.le_refl _)) ?_
      refine results_sel [0] rfl (rs := [.tmp 2]) (vs := [_]) rfl ⟨rfl, trivial⟩ ?_
      have e := compF_all (eq := eqI) (xs := ps) (k := ps.length) (Nat.le_refl _) (fun j h h1 h2 => hall j h h1 (by omega))
      rw [List.take_length] at e
      rw [e]
      exact ⟨_, _, rfl, rfl⟩

theorem compactI0_spec (H : View) : SatO Tryz.prog F2075 #[nilS] H [] (fun r _ q => r = nilS ∧ q = [row nilS T3 1 0 []]) := by
  refine enterO (n := 61) (args := [nilS]) Tryz.func134 rfl rfl rfl fun w0 => ?_
  refine K_seq ?_
  refine K_region ?_
  refine KV (R_assign rfl) rfl ?_
  refine K_nil ?_
  refine Q_then ?_
  refine K_seq ?_
  refine K_seq ?_
  refine K_region ?_
  refine KV (R_move rfl) rfl ?_
  refine KV (R_len sl25 rfl) rfl ?_
  refine KV (R_cmp rfl rfl rfl) rfl ?_
  refine K_nil ?_
  refine Q_then ?_
  refine K_if rfl (fun h0 => ?_) (fun h0 => ?_)
  ·
    refine K_seq ?_
    refine K_region ?_
    refine KV (R_move rfl) rfl ?_
    refine KV (R_assign rfl) rfl ?_
    refine K_nil ?_
    refine Q_then ?_
    refine K_ret ?_
    refine Q_then_ret ?_
    refine KQ_nilrow T3 1 ?_
    refine results_gen (rs := [.tmp 2]) (vs := [_]) rfl ⟨rfl, trivial⟩ ?_
    exact ⟨rfl, rfl⟩
  ·
    exact absurd (by omega) h0

theorem compactR_spec (ps : List (Rl × Value)) (v : Value) (H : View) (gf : Nat) (hct : callable Tryz.prog gf = true) (hps : ∀ p ∈ ps, RVok H p) (heq : ∀ H2 p q, VLe H H2 → RVok H2 p → RVok H2 q → Sat Tryz.prog gf ([] ++ [Value.agg (cellRV p).toArray, .agg (cellRV q).toArray] ++ []).toArray H2 (fun r _ => r = .bool (eqP p q))) (hl : ps.length ≤ 1099511627776) :
    SatO Tryz.prog F2073 #[v, .func (.func gf) #[] #[]] H [row v T85 3 ps.length (cellsP ps)] (fun r _ q => ∃ a cap, r = .slice a (compF eqP none ps).length cap ∧ q = [row r T85 3 (compF eqP none ps).length (cellsP (compF eqP none ps))]) := by
  refine SatO.openRow (fun h1 h2 h3 => ?_) (fun gb cap tail h1 h2 h3 h4 h5 => ?_)
  · have : ps = [] := List.eq_nil_of_length_eq_zero h2
    subst this h1
    refine (compactR0_spec gf H).mono' ?_
    rintro r _ q ⟨rfl, rfl⟩
    exact ⟨none, 0, rfl, rfl⟩
  · subst h1
    exact compactR1_spec ps gb cap tail H gf hct hps heq hl h2 h3 h5
theorem compactI_spec (ps : List Int) (v : Value) (H : View) (hl : ps.length ≤ 1099511627776) :
    SatO Tryz.prog F2075 #[v] H [row v T3 1 ps.length (ints ps)] (fun r _ q => ∃ a cap, r = .slice a (compF eqI none ps).length cap ∧ q = [row r T3 1 (compF eqI none ps).length (ints (compF eqI none ps))]) := by
  refine SatO.openRow (fun h1 h2 h3 => ?_) (fun gb cap tail h1 h2 h3 h4 h5 => ?_)
  · have : ps = [] := List.eq_nil_of_length_eq_zero h2
    subst this h1
    refine (compactI0_spec H).mono' ?_
    rintro r _ q ⟨rfl, rfl⟩
    exact ⟨none, 0, rfl, rfl⟩
  · subst h1
    rw [ints_flat] at h5 ⊢
    refine (compactI1_spec ps gb cap tail H hl h2 h3 h5).mono' ?_
    rintro r _ q ⟨a, cp, rfl, rfl⟩
    exact ⟨a, cp, rfl, by rw [ints_flat]⟩
end Go.Proofs.X

namespace Go.Proofs.X
open Go Pal Go.Proofs
attribute [local irreducible] Pal.KO Pal.KC Pal.KQ Pal.KD
theorem c2050 : callable Tryz.prog F2050 = true := by kernel_rfl
theorem sortR_spec (gf : Nat) (hg : callable Tryz.prog gf = true) (H : View)
    (hord : ∀ (r s : Rl) (v u : Value), RVok H (r, v) → RVok H (s, u) → Sat Tryz.prog gf #[.agg #[.int .i64 r.sym, v, .int .i64 r.to], .agg #[.int .i64 s.sym, u, .int .i64 s.to]] H (fun x _ => x = .int .i64 (ordR r s)))
    (ps : List (Rl × Value)) (hps : ∀ p ∈ ps, RVok H p) (v : Value) (hlen : ps.length ≤ 1099511627776) :
    SatO Tryz.prog F2072 #[v, .func (.func gf) #[] #[]] H [row v T85 3 ps.length (cellsP ps)] (fun r H' q => r = .tuple #[] ∧ H' = H ∧ ∃ ps', ps'.Perm ps ∧ ps'.Pairwise (fun x y => ¬ ltR y.1 x.1) ∧ q = [row v T85 3 ps'.length (cellsP ps')]) :=
  sortRules (P := Tryz.prog) Tryz.layR (fun w => ty85.run_isAgg w) (fun w => ty85.run_sizeOf w) gf hg H T85 hord ps hps v (by omega)
theorem sortI_spec (xs : List Int) (v : Value) (H : View) (hlen : xs.length ≤ 1099511627776) :
    SatO Tryz.prog F2039 #[v] H [row v T3 1 xs.length (ints xs)] (fun r H' q => r = .tuple #[] ∧ H' = H ∧ ∃ ys, ys.Perm xs ∧ ys.Pairwise (· ≤ ·) ∧ q = [row v T3 1 ys.length (ints ys)]) :=
  sortInts (P := Tryz.prog) Tryz.layI H T3 xs v (by omega)
theorem orderV_spec (H : View) (r s : Rl) (v u : Value) (h1 : RVok H (r, v)) (h2 : RVok H (s, u)) : Sat Tryz.prog F2050 #[.agg #[.int .i64 r.sym, v, .int .i64 r.to], .agg #[.int .i64 s.sym, u, .int .i64 s.to]] H (fun x _ => x = .int .i64 (ordR r s)) := by
  obtain ⟨a, cp, e⟩ := h1.1.shape
  obtain ⟨a2, cp2, e2⟩ := h2.1.shape
  dsimp only at e e2
  subst e e2
  exact order_spec r s a a2 cp cp2 H h1.1 h2.1 h1.2.1 h2.2.1

theorem eqO_spec (H : View) (p q : Rl × Value) (h1 : RVok H p) (h2 : RVok H q) : Sat Tryz.prog F2074 #[.agg (cellRV p).toArray, .agg (cellRV q).toArray] H (fun r _ => r = .bool (eqP p q)) := by
  refine enterO (n := 9) (args := [.agg (cellRV p).toArray, .agg (cellRV q).toArray]) Tryz.func132 rfl rfl rfl fun w0 => ?_
  refine K_seq ?_
  refine K_region ?_
  refine KA (A_box rfl) rfl fun b2 => ?_
  refine KA (A_box rfl) rfl fun b3 => ?_
  refine KV (R_assign rfl) rfl ?_
  refine K_nil ?_
  refine Q_then ?_
  refine K_seq ?_
  refine K_region ?_
  refine KV (R_loadW ty85 1 rfl rfl rfl rfl) rfl ?_
  refine KV (R_loadW ty85 0 rfl rfl rfl rfl) rfl ?_
  refine K_call c2050 rfl rfl (orderV_spec H p.1 q.1 p.2 q.2 h1 h2) ?_
  rintro _ V1 hv1 rfl
  refine KV (R_cmp rfl rfl rfl) rfl ?_
  refine KV (R_assign rfl) rfl ?_
  refine K_nil ?_
  refine Q_then ?_
  refine K_ret ?_
  refine results_gen (rs := [.tmp 4]) (vs := [_]) rfl ⟨rfl, trivial⟩ ?_
  rfl

theorem nclone_spec (a : Au) (vr vu vf : Value) (H : View) (ha : RepAu H a vr vu vf) : SatO Tryz.prog F2037 #[.agg #[vr, .int .i64 a.states, vu, vf]] H [] (fun r H' q => OwnAu H' T3 T85 a r q ∧ True) := by
  obtain ⟨ra, rcp, rfl⟩ := ha.r.shape
  obtain ⟨fa, fcp, rfl⟩ := ha.f.shape
  obtain ⟨ua, ucp, rfl⟩ := ha.ushape
  have hrl := ha.rl
  have hul := ha.ul
  have hfl := ha.fl
  refine enterO (n := 37) (args := [.agg #[.slice ra a.ranks.length rcp, .int .i64 a.states, .slice ua a.rules.length ucp, .slice fa a.final.length fcp]]) Tryz.func77 rfl rfl rfl fun w0 => ?_
  refine K_seq ?_
  refine K_region ?_
  refine KA (A_box rfl) rfl fun b1 => ?_
  refine KA (A_alloc z50) rfl fun b2 => ?_
  refine K_nil ?_
  refine Q_then ?_
  refine K_seq ?_
  refine K_regionD (fin := true) (R := [0, 1, 3, 4, 5, 6, 2, 7, 8, 9, 10]) (by kernel_rfl) mixed (.cons _ (.cons_cons _ (List.nil_sublist _))) ?_
  refine D_val rfl rfl rfl (R_fieldAddr 0 fd50_0 rfl) ?_
  refine D_val rfl rfl rfl (R_loadO ty47 0 rfl rfl rfl rfl (fun _ => rfl) rfl) ?_
  refine D_val rfl rfl rfl (R_fieldAddr 1 fd50_1 rfl) ?_
  refine D_val rfl rfl rfl (R_loadO ty3 0 rfl rfl rfl rfl (fun _ => rfl) rfl) ?_
  refine D_val rfl rfl rfl (R_fieldAddr 3 fd50_3 rfl) ?_
  refine D_val rfl rfl rfl (R_loadO ty25 0 rfl rfl rfl rfl (fun _ => rfl) rfl) ?_
  refine D_call rfl rfl c45 rfl ⟨⟨1, rfl⟩, trivial⟩ (clone47_spec a.ranks _ H ha.r hrl) ?_
  rintro _ V0 hv0 hcr
  obtain ⟨ca, cc, rfl⟩ := hcr.shape
  refine D_callO (first := []) [] _ rfl rfl c65 rfl rfl (List.Perm.refl _) ⟨⟨1, rfl⟩, trivial⟩ (clone25o_spec [] a.final _ V0 (ha.mono hv0).f.1.rd hfl).rowshape ?_
  rintro _ V1 q13 hv1 ⟨f13, fc13, rfl, rfl⟩
  dsimp only [List.cons_append, List.nil_append]
  refine D_val rfl rfl rfl (R_build z50 pl50 rfl rfl) ?_
  refine D_alloc rfl rfl rfl (A_alloc z50) fun b3 => ?_
  refine D_lastStore ty50 0 rfl rfl rfl rfl rfl rfl rfl rfl ?_
  refine Q_then ?_
  refine K_seq ?_
  refine K_seq ?_
  refine K_region ?_
  refine KV (R_fieldAddr 2 fd50_2 rfl) rfl ?_
  refine KV (R_loadO ty48 3 rfl rfl rfl rfl (fun _ => rfl) rfl) rfl ?_
  refine KV (R_len sl48 rfl) rfl ?_
  refine KV (R_move rfl) rfl ?_
  refine K_nil ?_
  refine Q_then ?_
  refine K_block ?_
  refine K_nilrow T85 3 ?_
  refine KC_many_nil ?_
  refine K_loopD (G := Nat × View × Value × (List (Rl × Value))) [5, 18, 19, 20, 21, 22, 23, 24, 25, 26, 27, 28, 29, 30, 31, 32, 33, 34, 35] (fun g => [(18, .int .i64 (g.1 : Int))]) (fun hl g => (((hl.set 0 (many (rowsFrom T3 g.2.2.2))).set 1 (row g.2.2.1 T85 3 g.1 (cellsP g.2.2.2))).set 2 (blk b3 (.cells #[.slice ca a.ranks.length cc, .int .i64 a.states, g.2.2.1, .slice f13 a.final.length fc13] T50 (0, 0))))) (fun g => g.2.1) (fun g => (g.1 ≤ a.rules.length) ∧ (VLe V1 g.2.1) ∧ (g.2.2.2.map (·.1) = a.rules.take g.1) ∧ (∃ ad cp, g.2.2.1 = .slice ad g.1 cp)) (fun g => a.rules.length - g.1) (0, V1, nilS, []) ⟨Nat.zero_le _, VLe.refl _, rfl, none, 0, rfl⟩ ⟨rfl, trivial⟩ (by simp only [args0, Nat.reduceAdd, del, memN, beqN, Nat.reduceBEq, cond_true, cond_false]; rfl) rfl rfl ?_
  rintro ⟨k, V, w, ps⟩ ⟨hk, hV, hps, hw⟩
  dsimp only at hk hV hps hw
  dsimp only [List.set, List.cons_append, List.nil_append]
  obtain ⟨wa, wcp, rfl⟩ := hw
  refine K_seq ?_
  refine K_region ?_
  refine KV (R_cmp rfl rfl rfl) rfl ?_
  refine K_nil ?_
  refine Q_then ?_
  refine K_seq ?_
  refine K_if rfl (fun h19 => ?_) (fun h19 => ?_)
  ·
    have hk' : k < a.rules.length := by omega
    obtain ⟨ub, uo, ucp2, xa, xcp, hue, hrc, hsr, hsym, hto, hxl⟩ := (ha.mono (hv0.trans (hv1.trans hV))).rule hk'
    cases hue
    refine K_skip ?_
    refine Q_then ?_
    refine K_seq ?_
    refine K_block ?_
    refine K_seq ?_
    refine K_region ?_
    refine KV (R_indexN sl48 ty85 rfl rfl (by omega)) rfl ?_
    refine KV (R_loadH ty85 rfl (hrc) rfl (fun e => by cases e) rfl) rfl ?_
    refine KA (A_alloc z85) rfl fun b5 => ?_
    refine K_storeW ty85 0 rfl rfl rfl rfl rfl rfl rfl ?_
    refine K_nil ?_
    refine Q_then ?_
    refine K_regionD (fin := true) (R := [0, 1, 2, 3, 4, 5, 7, 8, 6, 9, 10, 11, 12, 13]) (by kernel_rfl) mixed (.cons_cons _ (.cons _ (.cons _ (.cons_cons _ (.cons _ (.cons _ (.cons_cons _ (List.nil_sublist _)))))))) ?_
    refine D_val rfl rfl rfl (R_fieldAddr 2 fd50_2 rfl) ?_
    refine D_val rfl rfl rfl (R_loadO ty48 1 rfl rfl rfl rfl (fun _ => rfl) rfl) ?_
    refine D_val rfl rfl rfl (R_fieldAddr 0 fd85_0 rfl) ?_
    refine D_val rfl rfl rfl (R_loadO ty3 0 rfl rfl rfl rfl (fun _ => rfl) rfl) ?_
    refine D_val rfl rfl rfl (R_fieldAddr 1 fd85_1 rfl) ?_
    refine D_val rfl rfl rfl (R_loadO ty25 0 rfl rfl rfl rfl (fun _ => rfl) rfl) ?_
    refine D_val rfl rfl rfl (R_fieldAddr 2 fd85_2 rfl) ?_
    refine D_val rfl rfl rfl (R_loadO ty3 0 rfl rfl rfl rfl (fun _ => rfl) rfl) ?_
    refine D_callO (first := []) [] _ rfl rfl c65 rfl rfl (List.Perm.refl _) ⟨⟨0, rfl⟩, ⟨3, rfl⟩, ⟨6, rfl⟩, trivial⟩ (clone25o_spec [] a.rules[k].args _ V hsr.1.rd hxl).rowshape ?_
    rintro _ U q28 hU ⟨f28, fc28, rfl, rfl⟩
    dsimp only [List.cons_append, List.nil_append]
    refine D_val rfl rfl rfl (R_build z85 pl85 rfl rfl) ?_
    refine D_alloc rfl rfl rfl (A_buildSlice (vs := [.agg #[.int .i64 a.rules[k].sym, .slice f28 a.rules[k].args.length fc28, .int .i64 a.rules[k].to]]) sl48 ty85 z85 rfl rfl (by simp [Value.cells]) (by simp) rfl (by decide)) fun b32 => ?_
    refine D_append1 3 ap48 rfl rfl rfl rfl rfl rfl ⟨⟨1, rfl⟩, ⟨3, rfl⟩, ⟨6, rfl⟩, trivial⟩ rfl rfl ⟨by omega, by omega⟩ fun a33 k33 hn33 => ?_
    refine D_val rfl rfl rfl (R_fieldAddr 2 fd50_2 rfl) ?_
    refine D_lastStore ty48 4 rfl rfl rfl rfl rfl rfl rfl rfl ?_
    refine KQ_front 3 rfl ?_
    refine KQ_front 2 rfl ?_
    refine KQ_many_snoc ?_
    dsimp only [List.eraseIdx]
    refine Q_block ?_
    refine Q_then ?_
    refine K_region ?_
    refine KV (R_add rfl rfl (by omega)) rfl ?_
    refine KV (R_move rfl) rfl ?_
    refine K_nil ?_
    refine KQ_sel [0, 0, 1, 1, 1, 1] rfl ?_
    refine Q_nextD (k + 1, U, .slice a33 (k + 1) k33, ps ++ [(a.rules[k], .slice f28 a.rules[k].args.length fc28)]) ⟨hk', hV.trans hU, by rw [List.take_succ_eq_append_getElem hk', List.map_append, hps]; rfl, _, _, rfl⟩ (by (try dsimp only); omega) ⟨rfl, trivial⟩ rfl (by dsimp only [List.set]; rw [rowsFrom_snoc, cellsP_snoc]; rfl) rfl
  ·
    have hk' : k = a.rules.length := by omega
    subst hk'
    rw [List.take_length] at hps
    have hpl : ps.length = a.rules.length := by rw [← hps]; simp
    refine K_exit ?_
    refine Q_then_exit ?_
    refine Q_then_exit ?_
    refine Q_block_exit ?_
    refine Q_then ?_
    refine K_seq ?_
    refine K_region ?_
    refine KV (R_loadO ty50 2 rfl rfl rfl rfl (fun e => by cases e) rfl) rfl ?_
    refine K_store ty50 4 rfl rfl rfl rfl rfl rfl ?_
    refine K_nil ?_
    refine Q_then ?_
    refine K_ret ?_
    refine results_sel [1, 2, 0] rfl (rs := [.cell 2 71]) (vs := [_]) rfl ⟨⟨_, _, _, _, _, _, 4, rfl, rfl, ty50, (fun e => by cases e), rfl, rfl⟩, trivial⟩ ?_
    refine ⟨⟨_, wa, wcp, f13, fc13, ps, ?_, hcr.mono (hv1.trans hV), hps, ?_⟩, trivial⟩
    · rw [hpl]; rfl
    · rw [hpl]
end Go.Proofs.X

namespace Go.Proofs.X
open Go Pal Go.Proofs
attribute [local irreducible] Pal.KO Pal.KC Pal.KQ Pal.KD
theorem c2037 : callable Tryz.prog F2037 = true := by kernel_rfl
theorem c2039 : callable Tryz.prog F2039 = true := by kernel_rfl
theorem c2072 : callable Tryz.prog F2072 = true := by kernel_rfl
theorem c2073 : callable Tryz.prog F2073 = true := by kernel_rfl
theorem c2074 : callable Tryz.prog F2074 = true := by kernel_rfl
theorem c2075 : callable Tryz.prog F2075 = true := by kernel_rfl
theorem sortOwn_spec (ps : List (Rl × Value)) (hb : ∀ p ∈ ps, RlB p.1) (v : Value) (H : View) (hlen : ps.length ≤ 1099511627776) :
    SatO Tryz.prog F2072 #[v, .func (.func F2050) #[] #[]] H [row v T85 3 ps.length (cellsP ps), many (rowsFrom T3 ps)] (fun r H' q => r = .tuple #[] ∧ H' = H ∧ ∃ ps', ps'.Perm ps ∧ ps'.Pairwise (fun x y => ¬ ltR y.1 x.1) ∧ q = [row v T85 3 ps'.length (cellsP ps'), many (rowsFrom T3 ps')]) := by
  have h := SatO.lend (P := Tryz.prog) (f := F2072) (args := #[v, .func (.func F2050) #[] #[]]) (H := H) (hl := [row v T85 3 ps.length (cellsP ps)]) [many (rowsFrom T3 ps)]
    (post := fun r q => r = .tuple #[] ∧ ∃ ps', ps'.Perm ps ∧ ps'.Pairwise (fun x y => ¬ ltR y.1 x.1) ∧ q = [row v T85 3 ps'.length (cellsP ps')])
    (fun H2 _ hh => (sortR_spec F2050 c2050 H2 (orderV_spec H2) ps (rv_of_many (hh _ (List.mem_cons_self ..)) hb) v hlen).mono' (fun _ _ _ h => ⟨h.1, h.2.2⟩))
  intro w hw
  refine Calls.mono (h w hw) ?_
  rintro e w' ⟨r, H', q, rfl, hok, rfl, q', rfl, rfl, ps', hp, hs, rfl⟩
  refine ⟨_, H', _, rfl, ?_, rfl, rfl, ps', hp, hs, rfl⟩
  have h2 : Ok _ w' H' (many (rowsFrom T3 ps) :: [row v T85 3 ps'.length (cellsP ps')]) := hok.perm (List.Perm.swap _ _ _)
  exact (h2.many_perm (p' := rowsFrom T3 ps') (hp.symm.map _)).perm (List.Perm.swap _ _ _)
theorem compactOwn_spec (gf : Nat) (hct : callable Tryz.prog gf = true) (heq : ∀ (H : View) (p q : Rl × Value), RVok H p → RVok H q → Sat Tryz.prog gf #[.agg (cellRV p).toArray, .agg (cellRV q).toArray] H (fun r _ => r = .bool (eqP p q))) (ps : List (Rl × Value)) (hb : ∀ p ∈ ps, RlB p.1) (v : Value) (H : View) (hlen : ps.length ≤ 1099511627776) :
    SatO Tryz.prog F2073 #[v, .func (.func gf) #[] #[]] H [row v T85 3 ps.length (cellsP ps), many (rowsFrom T3 ps)] (fun r H' q => H' = H ∧ ∃ a cap, r = .slice a (compF eqP none ps).length cap ∧ q = [row r T85 3 (compF eqP none ps).length (cellsP (compF eqP none ps)), many (rowsFrom T3 (compF eqP none ps))]) := by
  have h := SatO.lend (P := Tryz.prog) (f := F2073) (args := #[v, .func (.func gf) #[] #[]]) (H := H) (hl := [row v T85 3 ps.length (cellsP ps)]) [many (rowsFrom T3 ps)]
    (post := fun r q => ∃ a cap, r = .slice a (compF eqP none ps).length cap ∧ q = [row r T85 3 (compF eqP none ps).length (cellsP (compF eqP none ps))])
    (fun H2 _ hh => compactR_spec ps v H2 gf hct (rv_of_many (hh _ (List.mem_cons_self ..)) hb) (fun H3 p q _ h1 h2 => heq H3 p q h1 h2) hlen)
  intro w hw
  refine Calls.mono (h w hw) ?_
  rintro e w' ⟨r, H', q, rfl, hok, rfl, q', rfl, a, cap, rfl, rfl⟩
  refine ⟨_, H', _, rfl, ?_, rfl, a, cap, rfl, rfl⟩
  have h2 : Ok _ w' H' (many (rowsFrom T3 ps) :: [row (.slice a (compF eqP none ps).length cap) T85 3 (compF eqP none ps).length (cellsP (compF eqP none ps))]) := hok.perm (List.Perm.swap _ _ _)
  exact (h2.many_sub (p' := rowsFrom T3 (compF eqP none ps)) ((compF_sublist eqP none ps).map _)).perm (List.Perm.swap _ _ _)

theorem sorted_spec (a : Au) (vr vu vf : Value) (H : View) (ha : RepAu H a vr vu vf) : SatO Tryz.prog F2045 #[.agg #[vr, .int .i64 a.states, vu, vf]] H [] (fun r H' q => OwnAu H' T3 T85 (normA a) r q ∧ True) := by
  obtain ⟨ra, rcp, rfl⟩ := ha.r.shape
  obtain ⟨fa, fcp, rfl⟩ := ha.f.shape
  obtain ⟨ua, ucp, rfl⟩ := ha.ushape
  have hab := ha.b
  have hul := ha.ul
  have hfl := ha.fl
  refine enterO (n := 20) (args := [.agg #[.slice ra a.ranks.length rcp, .int .i64 a.states, .slice ua a.rules.length ucp, .slice fa a.final.length fcp]]) Tryz.func78 rfl rfl rfl fun w0 => ?_
  refine K_seq ?_
  refine K_region ?_
  refine KA (A_box rfl) rfl fun b1 => ?_
  refine KA (A_alloc z50) rfl fun b2 => ?_
  refine K_nil ?_
  refine Q_then ?_
  refine K_seq ?_
  refine K_region ?_
  refine KV (R_loadW ty50 1 rfl rfl rfl rfl) rfl ?_
  refine K_callO (first := []) [] _ (List.Perm.refl _) c2037 rfl rfl rfl (nclone_spec a _ _ _ H ha) ?_
  rintro _ V1 q hv1 ⟨⟨xr, ua2, uc2, fa2, fc2, ps, rfl, hxr, hps, rfl⟩, _⟩
  dsimp only [List.cons_append, List.nil_append]
  obtain ⟨xa, xc, rfl⟩ := hxr.shape
  have hpl : ps.length = a.rules.length := by rw [← hps]; simp
  have hpb : ∀ p ∈ ps, RlB p.1 := fun p hp => hab.u p.1 (by rw [← hps]; exact List.mem_map.2 ⟨p, hp, rfl⟩)
  refine K_storeW ty50 4 rfl rfl rfl rfl rfl rfl rfl ?_
  refine K_nil ?_
  refine Q_then ?_
  refine K_seq ?_
  refine K_region ?_
  refine KV (R_fieldAddr 2 fd50_2 rfl) rfl ?_
  refine KV (R_loadO ty48 4 rfl rfl rfl rfl (fun _ => rfl) rfl) rfl ?_
  refine KO_sel [0, 1, 0, 0, 0] rfl ?_
  refine K_callO (first := []) [_, _] _ (List.Perm.refl _) c2072 rfl rfl rfl (sortOwn_spec ps hpb _ V1 (by omega)) ?_
  rintro _ V2 q hv2 ⟨rfl, rfl, ps2, hp2, hs2, rfl⟩
  dsimp only [List.cons_append, List.nil_append]
  have hpb2 : ∀ p ∈ ps2, RlB p.1 := fun p hp => hpb p (hp2.mem_iff.1 hp)
  have hpl2 : ps2.length = ps.length := hp2.length_eq
  refine K_nil ?_
  refine Q_then ?_
  refine K_seq ?_
  refine K_region ?_
  refine KV (R_fieldAddr 2 fd50_2 rfl) rfl ?_
  refine KV (R_loadO ty48 4 rfl rfl rfl rfl (fun _ => rfl) rfl) rfl ?_
  refine K_callO (first := []) [_, _] _ (List.Perm.refl _) c2073 rfl rfl rfl (by rw [← hpl2]; exact compactOwn_spec F2074 c2074 eqO_spec ps2 hpb2 _ V2 (by omega)) ?_
  rintro _ V3 q hv3 ⟨rfl, ua3, uc3, rfl, rfl⟩
  dsimp only [List.cons_append, List.nil_append]
  have hps3 : (compF eqP none ps2).map (·.1) = sortO a.rules := by
    rw [comp_rules hs2, ← hps]
    exact sortO_congr fun x => (hp2.map _).mem_iff
  have hpl3 := congrArg List.length hps3
  rw [List.length_map] at hpl3
  refine KV (R_fieldAddr 2 fd50_2 rfl) rfl ?_
  refine K_store ty48 4 rfl rfl rfl rfl rfl rfl ?_
  refine K_nil ?_
  refine Q_then ?_
  refine K_seq ?_
  refine K_region ?_
  refine KV (R_fieldAddr 3 fd50_3 rfl) rfl ?_
  refine KV (R_loadO ty25 4 rfl rfl rfl rfl (fun _ => rfl) rfl) rfl ?_
  refine KO_sel [2, 0, 0, 0, 0] rfl ?_
  refine K_callO (first := []) [_] _ (List.Perm.refl _) c2039 rfl rfl rfl (sortI_spec a.final _ V3 (by omega)) ?_
  rintro _ V4 q hv4 ⟨rfl, rfl, fs, hf1, hf2, rfl⟩
  dsimp only [List.cons_append, List.nil_append]
  have hfl2 : fs.length = a.final.length := hf1.length_eq
  refine K_nil ?_
  refine Q_then ?_
  refine K_seq ?_
  refine K_region ?_
  refine KV (R_fieldAddr 3 fd50_3 rfl) rfl ?_
  refine KV (R_loadO ty25 4 rfl rfl rfl rfl (fun _ => rfl) rfl) rfl ?_
  refine K_callO (first := []) [_] _ (List.Perm.refl _) c2075 rfl rfl rfl (by rw [← hfl2]; exact compactI_spec fs _ V4 (by omega)) ?_
  rintro _ V5 q hv5 ⟨fa3, fc3, rfl, rfl⟩
  dsimp only [List.cons_append, List.nil_append]
  have hfs : compF eqI none fs = sortI a.final := (comp_ints hf2).trans (sortI_congr fun x => hf1.mem_iff)
  rw [hfs]
  refine KV (R_fieldAddr 3 fd50_3 rfl) rfl ?_
  refine K_store ty25 4 rfl rfl rfl rfl rfl rfl ?_
  refine K_nil ?_
  refine Q_then ?_
  refine K_seq ?_
  refine K_region ?_
  refine KV (R_loadW ty50 4 rfl rfl rfl rfl) rfl ?_
  refine K_storeW ty50 3 rfl rfl rfl rfl rfl rfl rfl ?_
  refine K_nil ?_
  refine Q_then ?_
  refine K_ret ?_
  refine results_sel [1, 0, 0] rfl (rs := [.cell 2 71]) (vs := [_]) rfl ⟨⟨_, _, _, _, _, _, 3, rfl, rfl, ty50, (fun e => by cases e), rfl, rfl⟩, trivial⟩ ?_
  refine ⟨⟨_, ua3, uc3, fa3, fc3, compF eqP none ps2, ?_, hxr.mono hv5, hps3, ?_⟩, trivial⟩
  · rw [hpl3]; rfl
  · rfl
end Go.Proofs.X

namespace Go.Proofs.X
open Go Pal Go.Proofs
attribute [local irreducible] Pal.KO Pal.KC Pal.KQ Pal.KD

theorem sortedP_spec (a : Au) (vr vu vf : Value) (H : View) (ha : RepAu H a vr vu vf) : SatO Tryz.prog F2045 #[.agg #[vr, .int .i64 a.states, vu, vf]] H [] (fun r H' q => q = [] ∧ (∃ v1 v2 v3, r = .agg #[v1, .int .i64 a.states, v2, v3] ∧ RepAu H' (normA a) v1 v2 v3) ∧ True) :=
  SatO.pub_au (a := normA a) ha.b.norm (sorted_spec a vr vu vf H ha)
end Go.Proofs.X

namespace Go.Proofs.X
open Go Pal Go.Proofs
attribute [local irreducible] Pal.KO Pal.KC Pal.KQ Pal.KD

end Go.Proofs.X

namespace Go.Proofs.X
open Go Pal Go.Proofs
attribute [local irreducible] Pal.KO Pal.KC Pal.KQ Pal.KD

theorem sortedS_spec (a : Au) (vr vu vf : Value) (H : View) (ha : RepAu H a vr vu vf) : Sat Tryz.prog F2045 #[.agg #[vr, .int .i64 a.states, vu, vf]] H (fun r H' => ∃ v1 v2 v3, r = .agg #[v1, .int .i64 a.states, v2, v3] ∧ RepAu H' (normA a) v1 v2 v3) :=
  (sortedP_spec a vr vu vf H ha).mono' fun _ _ _ h => h.2.1
end Go.Proofs.X
