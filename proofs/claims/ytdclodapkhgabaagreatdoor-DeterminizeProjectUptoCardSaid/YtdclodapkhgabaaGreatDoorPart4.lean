/-
  Part of the proof: rules for walks, contracts of the functions that the statements reach, plain laws. Own work. No statement of the seat is proved here.
-/
import Derived.Test.YtdclodapkhgabaaGreatDoorPart3
import Derived.Test.YtdclodapkhgabaaGreatDoorPart1
import Derived.Test.YtdclodapkhgabaaGreatDoorPart2
namespace Go.Proofs.X
open Go Pal Go.Proofs
attribute [local irreducible] Pal.KO Pal.KC Pal.KQ Pal.KD
theorem ty63 : Ty Tryz.prog T63 true 3 := .of (by kernel_rfl)
theorem c66 : callable Tryz.prog F66 = true := by kernel_rfl
theorem c75 : callable Tryz.prog F75 = true := by kernel_rfl
theorem c114 : callable Tryz.prog F114 = true := by kernel_rfl
theorem c115 : callable Tryz.prog F115 = true := by kernel_rfl
theorem c118 : callable Tryz.prog F118 = true := by kernel_rfl
theorem c119 : callable Tryz.prog F119 = true := by kernel_rfl
theorem rdcheck_spec (d : Dt) (v1 v2 v3 : Value) (H : View) (hd : RepDt H d v1 v2 v3) (hb : d.ranks.length ≤ 1048576 ∧ d.acc.length ≤ 1048576 ∧ d.to.length ≤ 1048576 ∧ ∀ x ∈ d.to, x.length ≤ 1048576) : Sat Tryz.prog F29 #[.agg #[v1, v2, v3]] H (fun r _ => r = .int .i64 (dtErr d)) := by
  obtain ⟨hb1, hb2, hb3, hb4⟩ := hb
  obtain ⟨ua1, uc1x, rfl⟩ := hd.r.shape
  obtain ⟨ua2, uc2x, rfl⟩ := hd.a.shape
  obtain ⟨ua3, uc3x, rfl⟩ := hd.t.shape
  refine enterO (n := 85) (args := [.agg #[.slice ua1 d.ranks.length uc1x, .slice ua2 d.acc.length uc2x, .slice ua3 d.to.length uc3x]]) Tryz.func12 rfl rfl rfl fun w0 => ?_
  refine K_seq ?_
  refine K_region ?_
  refine KA (A_box rfl) rfl fun b1 => ?_
  refine KV (R_assign rfl) rfl ?_
  refine K_nil ?_
  refine Q_then ?_
  refine K_seq ?_
  refine K_seq ?_
  refine K_region ?_
  refine KV (R_fieldAddr 0 fd63_0 rfl) rfl ?_
  refine KV (R_loadO ty25 0 rfl rfl rfl rfl (fun _ => rfl) rfl) rfl ?_
  refine K_call c36 rfl rfl (rcheck31_spec d.ranks _ H hd.r (by omega)) ?_
  rintro _ V1 hle1 rfl
  refine KV (R_assign rfl) rfl ?_
  refine K_nil ?_
  refine Q_then ?_
  refine K_seq ?_
  refine K_region ?_
  refine KV (R_move rfl) rfl ?_
  refine KV (R_cmp rfl rfl rfl) rfl ?_
  refine K_nil ?_
  refine Q_then ?_
  refine K_if rfl (fun h12 => ?_) (fun h12 => ?_)
  ·
    refine K_seq ?_
    refine K_region ?_
    refine KV (R_move rfl) rfl ?_
    refine KV (R_assign rfl) rfl ?_
    refine K_nil ?_
    refine Q_then ?_
    refine K_ret ?_
    refine Q_then_ret ?_
    refine results_gen (rs := [.tmp 2]) (vs := [_]) rfl ⟨rfl, trivial⟩ ?_
    simp only [tupV, dtErr]
    rw [if_pos h12]
  ·
    have hrks := (ranksErr_ok (Decidable.not_not.1 h12)).2
    refine K_skip ?_
    refine Q_then ?_
    refine K_seq ?_
    refine K_region ?_
    refine KV (R_fieldAddr 1 fd63_1 rfl) rfl ?_
    refine KV (R_loadO ty52 0 rfl rfl rfl rfl (fun _ => rfl) rfl) rfl ?_
    refine KV (R_len sl52 rfl) rfl ?_
    refine KV (R_assign rfl) rfl ?_
    refine K_nil ?_
    refine Q_then ?_
    refine K_seq ?_
    refine K_seq ?_
    refine K_region ?_
    refine KV (R_move rfl) rfl ?_
    refine KV (R_cmp rfl rfl rfl) rfl ?_
    refine KV (R_move rfl) rfl ?_
    refine K_split ?_ ?_
    ·
      intro h19
      refine K_gno rfl rfl rfl rfl ?_
      refine K_gno rfl rfl rfl rfl ?_
      refine KV (R_pickT rfl rfl) rfl ?_
      refine K_nil ?_
      refine Q_then ?_
      refine K_ifT rfl ?_
      refine K_seq ?_
      refine K_region ?_
      refine KV (R_assign rfl) rfl ?_
      refine K_nil ?_
      refine Q_then ?_
      refine K_ret ?_
      refine Q_then_ret ?_
      refine results_gen (rs := [.tmp 2]) (vs := [_]) rfl ⟨rfl, trivial⟩ ?_
      simp only [tupV, dtErr]
      rw [if_neg h12, if_pos (by omega)]
    ·
      intro h19
      refine K_gyes rfl rfl ?_
      refine KV (R_move rfl) rfl ?_
      refine K_gyes rfl rfl ?_
      refine KV (R_cmp rfl rfl rfl) rfl ?_
      refine KV (R_pickF rfl rfl) rfl ?_
      refine K_nil ?_
      refine Q_then ?_
      refine K_if rfl (fun h22 => ?_) (fun h22 => ?_)
      ·
        refine K_seq ?_
        refine K_region ?_
        refine KV (R_assign rfl) rfl ?_
        refine K_nil ?_
        refine Q_then ?_
        refine K_ret ?_
        refine Q_then_ret ?_
        refine results_gen (rs := [.tmp 2]) (vs := [_]) rfl ⟨rfl, trivial⟩ ?_
        simp only [tupV, dtErr]
        rw [if_neg h12, if_pos (by omega)]
      ·
        refine K_skip ?_
        refine Q_then ?_
        refine K_seq ?_
        refine K_seq ?_
        refine K_region ?_
        refine KV (R_fieldAddr 2 fd63_2 rfl) rfl ?_
        refine KV (R_loadO ty44 0 rfl rfl rfl rfl (fun _ => rfl) rfl) rfl ?_
        refine KV (R_len sl44 rfl) rfl ?_
        refine KV (R_fieldAddr 0 fd63_0 rfl) rfl ?_
        refine KV (R_loadO ty25 0 rfl rfl rfl rfl (fun _ => rfl) rfl) rfl ?_
        refine KV (R_len sl25 rfl) rfl ?_
        refine KV (R_cmp rfl rfl rfl) rfl ?_
        refine K_nil ?_
        refine Q_then ?_
        refine K_if rfl (fun h29 => ?_) (fun h29 => ?_)
        ·
          refine K_seq ?_
          refine K_region ?_
          refine KV (R_assign rfl) rfl ?_
          refine K_nil ?_
          refine Q_then ?_
          refine K_ret ?_
          refine Q_then_ret ?_
          refine results_gen (rs := [.tmp 2]) (vs := [_]) rfl ⟨rfl, trivial⟩ ?_
          simp only [tupV, dtErr]
          rw [if_neg h12, if_neg (by omega), if_pos h29]
        ·
          refine K_skip ?_
          refine Q_then ?_
          refine K_seq ?_
          refine K_seq ?_
          refine K_region ?_
          refine KV (R_assign rfl) rfl ?_
          refine K_nil ?_
          refine Q_then ?_
          refine K_block ?_
          refine K_loopD (G := Nat × View) [2, 5, 30, 31, 32, 33, 34, 35, 36, 37, 38, 39, 40, 41, 42, 43, 44, 45, 46] (fun g => [(5, .int .i64 (g.1 : Int))]) (fun hl g => hl) (fun g => g.2) (fun g => (g.1 ≤ d.to.length) ∧ (VLe H g.2) ∧ (∀ j (h : j < d.to.length), j < g.1 → (d.to.getD j []).length = d.acc.length ^ (d.ranks.getD j 0).toNat)) (fun g => d.to.length - g.1) (0, V1) ⟨Nat.zero_le _, hle1, fun j _ h => by simp at h⟩ ⟨rfl, trivial⟩ (by simp only [args0, Nat.reduceAdd, del, memN, beqN, Nat.reduceBEq, cond_true, cond_false]; rfl) rfl rfl ?_
          rintro ⟨s, V⟩ ⟨hs, hV, hwid⟩
          dsimp only at hs hV hwid
          dsimp only [List.set, List.cons_append, List.nil_append]
          refine K_seq ?_
          refine K_seq ?_
          refine K_region ?_
          refine KV (R_move rfl) rfl ?_
          refine KV (R_fieldAddr 2 fd63_2 rfl) rfl ?_
          refine KV (R_loadO ty44 0 rfl rfl rfl rfl (fun _ => rfl) rfl) rfl ?_
          refine KV (R_len sl44 rfl) rfl ?_
          refine KV (R_cmp rfl rfl rfl) rfl ?_
          refine K_nil ?_
          refine Q_then ?_
          refine K_if rfl (fun h34 => ?_) (fun h34 => ?_)
          ·
            have hs' : s < d.to.length := by omega
            obtain ⟨tb, to_, ea, ecp, hte, hta, hes⟩ := (hd.mono hV).t.get hs'
            cases hte
            have hsm : s < d.ranks.length := by omega
            obtain ⟨rb, ro, hre, hrk⟩ := (hd.mono hV).r.get hsm
            cases hre
            have hrr := hrks s hsm
            have hgs : d.to.getD s [] = d.to[s] := by simp [List.getD, hs']
            have hgr : d.ranks.getD s 0 = d.ranks[s] := by simp [List.getD, hsm]
            refine K_skip ?_
            refine Q_then ?_
            refine K_seq ?_
            refine K_block ?_
            refine K_seq ?_
            refine K_regionD (fin := false) (R := [0, 1, 2, 3, 4, 5, 6, 7, 8, 9]) (by kernel_rfl) mixed (.cons_cons _ (List.nil_sublist _)) ?_
            refine D_val rfl rfl rfl (R_fieldAddr 2 fd63_2 rfl) ?_
            refine D_val rfl rfl rfl (R_loadO ty44 0 rfl rfl rfl rfl (fun _ => rfl) rfl) ?_
            refine D_val rfl rfl rfl (R_move rfl) ?_
            refine D_val rfl rfl rfl (R_indexN sl44 ty25 rfl rfl (by omega)) ?_
            refine D_val rfl rfl rfl (R_loadH ty25 rfl (hta) rfl (fun _ => rfl) rfl) ?_
            refine D_val rfl rfl rfl (R_len sl25 rfl) ?_
            refine D_val rfl rfl rfl (R_loadO ty63 0 rfl rfl rfl rfl (fun e => by cases e) rfl) ?_
            refine D_val rfl rfl rfl (R_move rfl) ?_
            refine D_call rfl rfl c66 rfl ⟨⟨0, rfl⟩, trivial⟩ (places_spec d s _ _ _ V (hd.mono hV) (by omega) hsm hrr) ?_
            rintro _ V2 hv2 rfl
            refine D_val rfl rfl rfl (R_cmp rfl rfl rfl) ?_
            refine D_done ?_
            refine Q_then ?_
            refine K_if rfl (fun h46 => ?_) (fun h46 => ?_)
            ·
              have hwb : widthBad d = true := by
                unfold widthBad
                rw [List.any_eq_true]
                refine ⟨s, List.mem_range.2 hs', ?_⟩
                simp only [decide_eq_true_eq, hgs, hgr]
                omega
              refine K_seq ?_
              refine K_region ?_
              refine KV (R_assign rfl) rfl ?_
              refine K_nil ?_
              refine Q_then ?_
              refine K_ret ?_
              refine Q_block_ret ?_
              refine Q_then_ret ?_
              refine Q_then_ret ?_
              refine Q_block_ret ?_
              refine Q_then_ret ?_
              refine results_gen (rs := [.tmp 2]) (vs := [_]) rfl ⟨rfl, trivial⟩ ?_
              simp only [tupV, dtErr]
              rw [if_neg h12, if_neg (by omega), if_neg h29, if_pos hwb]
            ·
              have hwid2 : ∀ j (h : j < d.to.length), j < s + 1 → (d.to.getD j []).length = d.acc.length ^ (d.ranks.getD j 0).toNat := by
                intro j h hj
                by_cases e : j = s
                · subst e; rw [hgs, hgr]; omega
                · exact hwid j h (by omega)
              refine K_skip ?_
              refine Q_block ?_
              refine Q_then ?_
              refine K_region ?_
              refine KV (R_move rfl) rfl ?_
              refine KV (R_add rfl rfl (by omega)) rfl ?_
              refine KV (R_assign rfl) rfl ?_
              refine K_nil ?_
              refine Q_nextD (s + 1, V2) ⟨hs', hV.trans hv2, hwid2⟩ (by (try dsimp only); omega) ⟨rfl, trivial⟩ rfl rfl rfl
          ·
            have hwb : widthBad d = false := by
              unfold widthBad
              rw [List.any_eq_false]
              intro s hs
              have hs2 := List.mem_range.1 hs
              have := hwid s hs2 (by omega)
              simpa using this
            refine K_exit ?_
            refine Q_then_exit ?_
            refine Q_then_exit ?_
            refine Q_block_exit ?_
            refine Q_then ?_
            refine K_seq ?_
            refine K_seq ?_
            refine K_region ?_
            refine KV (R_assign rfl) rfl ?_
            refine K_nil ?_
            refine Q_then ?_
            refine K_block ?_
            refine K_loopD (G := Nat) [2, 6, 7, 47, 48, 49, 50, 51, 52, 53, 54, 55, 56, 57, 58, 59, 60, 61, 62, 63, 64, 65, 66, 67, 68, 69, 70, 71, 72, 73, 74, 75, 76, 77, 78, 79, 80, 81, 82, 83, 84] (fun g => [(6, .int .i64 (g : Int))]) (fun hl g => hl) (fun g => V) (fun g => (g ≤ d.to.length) ∧ (∀ j (h : j < d.to.length), j < g → d.to[j].any (badQ d.acc.length) = false)) (fun g => d.to.length - g) 0 ⟨Nat.zero_le _, fun j _ h => by simp at h⟩ ⟨rfl, trivial⟩ (by simp only [args0, Nat.reduceAdd, del, memN, beqN, Nat.reduceBEq, cond_true, cond_false]; rfl) rfl rfl ?_
            rintro s ⟨hs, hent⟩
            try dsimp only at hs
            try dsimp only at hent
            dsimp only [List.set, List.cons_append, List.nil_append]
            refine K_seq ?_
            refine K_seq ?_
            refine K_region ?_
            refine KV (R_move rfl) rfl ?_
            refine KV (R_fieldAddr 2 fd63_2 rfl) rfl ?_
            refine KV (R_loadO ty44 0 rfl rfl rfl rfl (fun _ => rfl) rfl) rfl ?_
            refine KV (R_len sl44 rfl) rfl ?_
            refine KV (R_cmp rfl rfl rfl) rfl ?_
            refine K_nil ?_
            refine Q_then ?_
            refine K_if rfl (fun h51 => ?_) (fun h51 => ?_)
            ·
              have hs' : s < d.to.length := by omega
              obtain ⟨tb, to_, ea, ecp, hte, hta, hes⟩ := (hd.mono hV).t.get hs'
              cases hte
              have hbl := hb4 _ (List.getElem_mem hs')
              refine K_skip ?_
              refine Q_then ?_
              refine K_seq ?_
              refine K_block ?_
              refine K_seq ?_
              refine K_region ?_
              refine KV (R_assign rfl) rfl ?_
              refine K_nil ?_
              refine Q_then ?_
              refine K_block ?_
              refine K_loopD (G := Nat) [2, 7, 54, 55, 56, 57, 58, 59, 60, 61, 62, 63, 64, 65, 66, 67, 68, 69, 70, 71, 72, 73, 74, 75, 76, 77, 78, 79, 80, 81, 82, 83, 84] (fun g => [(7, .int .i64 (g : Int))]) (fun hl g => hl) (fun g => V) (fun g => (g ≤ d.to[s].length) ∧ (∀ j (h : j < d.to[s].length), j < g → badQ d.acc.length d.to[s][j] = false)) (fun g => d.to[s].length - g) 0 ⟨Nat.zero_le _, fun j _ h => by simp at h⟩ ⟨rfl, trivial⟩ (by simp only [args0, Nat.reduceAdd, del, memN, beqN, Nat.reduceBEq, cond_true, cond_false]; rfl) rfl rfl ?_
              rintro k ⟨hk, hno⟩
              try dsimp only at hk
              try dsimp only at hno
              dsimp only [List.set, List.cons_append, List.nil_append]
              refine K_seq ?_
              refine K_seq ?_
              refine K_region ?_
              refine KV (R_move rfl) rfl ?_
              refine KV (R_fieldAddr 2 fd63_2 rfl) rfl ?_
              refine KV (R_loadO ty44 0 rfl rfl rfl rfl (fun _ => rfl) rfl) rfl ?_
              refine KV (R_move rfl) rfl ?_
              refine KV (R_indexN sl44 ty25 rfl rfl (by omega)) rfl ?_
              refine KV (R_loadH ty25 rfl (hta) rfl (fun _ => rfl) rfl) rfl ?_
              refine KV (R_len sl25 rfl) rfl ?_
              refine KV (R_cmp rfl rfl rfl) rfl ?_
              refine K_nil ?_
              refine Q_then ?_
              refine K_if rfl (fun h61 => ?_) (fun h61 => ?_)
              ·
                have hk' : k < d.to[s].length := by omega
                obtain ⟨eb, eo, hee, htx⟩ := hes.get hk'
                cases hee
                refine K_skip ?_
                refine Q_then ?_
                refine K_seq ?_
                refine K_block ?_
                refine K_seq ?_
                refine K_region ?_
                refine KV (R_fieldAddr 2 fd63_2 rfl) rfl ?_
                refine KV (R_loadO ty44 0 rfl rfl rfl rfl (fun _ => rfl) rfl) rfl ?_
                refine KV (R_move rfl) rfl ?_
                refine KV (R_indexN sl44 ty25 rfl rfl (by omega)) rfl ?_
                refine KV (R_loadH ty25 rfl (hta) rfl (fun _ => rfl) rfl) rfl ?_
                refine KV (R_move rfl) rfl ?_
                refine KV (R_indexN sl25 ty3 rfl rfl (by omega)) rfl ?_
                refine KV (R_loadH ty3 rfl (htx) rfl (fun _ => rfl) rfl) rfl ?_
                refine KV (R_cmp rfl rfl rfl) rfl ?_
                refine KV (R_move rfl) rfl ?_
                refine K_split ?_ ?_
                ·
                  intro h73
                  refine K_gno rfl rfl rfl rfl ?_
                  refine K_gno rfl rfl rfl rfl ?_
                  refine K_gno rfl rfl rfl rfl ?_
                  refine K_gno rfl rfl rfl rfl ?_
                  refine K_gno rfl rfl rfl rfl ?_
                  refine K_gno rfl rfl rfl rfl ?_
                  refine K_gno rfl rfl rfl rfl ?_
                  refine K_gno rfl rfl rfl rfl ?_
                  refine K_gno rfl rfl rfl rfl ?_
                  refine K_gno rfl rfl rfl rfl ?_
                  refine KV (R_pickT rfl rfl) rfl ?_
                  refine K_nil ?_
                  refine Q_then ?_
                  refine K_ifT rfl ?_
                  refine K_seq ?_
                  refine K_region ?_
                  refine KV (R_assign rfl) rfl ?_
                  refine K_nil ?_
                  refine Q_then ?_
                  refine K_ret ?_
                  refine Q_block_ret ?_
                  refine Q_then_ret ?_
                  refine Q_then_ret ?_
                  refine Q_block_ret ?_
                  refine Q_block_ret ?_
                  refine Q_then_ret ?_
                  refine Q_then_ret ?_
                  refine Q_block_ret ?_
                  refine Q_then_ret ?_
                  refine results_gen (rs := [.tmp 2]) (vs := [_]) rfl ⟨rfl, trivial⟩ ?_
                  have heb : entryBad d = true := List.any_eq_true.2 ⟨_, List.getElem_mem hs', List.any_eq_true.2 ⟨_, List.getElem_mem hk', by simp [badQ]; omega⟩⟩
                  simp only [tupV, dtErr]
                  rw [if_neg h12, if_neg (by omega), if_neg h29, hwb, heb]
                  rfl
                ·
                  intro h73
                  refine K_gyes rfl rfl ?_
                  refine KV (R_fieldAddr 2 fd63_2 rfl) rfl ?_
                  refine K_gyes rfl rfl ?_
                  refine KV (R_loadO ty44 0 rfl rfl rfl rfl (fun _ => rfl) rfl) rfl ?_
                  refine K_gyes rfl rfl ?_
                  refine KV (R_move rfl) rfl ?_
                  refine K_gyes rfl rfl ?_
                  refine KV (R_indexN sl44 ty25 rfl rfl (by omega)) rfl ?_
                  refine K_gyes rfl rfl ?_
                  refine KV (R_loadH ty25 rfl (hta) rfl (fun _ => rfl) rfl) rfl ?_
                  refine K_gyes rfl rfl ?_
                  refine KV (R_move rfl) rfl ?_
                  refine K_gyes rfl rfl ?_
                  refine KV (R_indexN sl25 ty3 rfl rfl (by omega)) rfl ?_
                  refine K_gyes rfl rfl ?_
                  refine KV (R_loadH ty3 rfl (htx) rfl (fun _ => rfl) rfl) rfl ?_
                  refine K_gyes rfl rfl ?_
                  refine KV (R_move rfl) rfl ?_
                  refine K_gyes rfl rfl ?_
                  refine KV (R_cmp rfl rfl rfl) rfl ?_
                  refine KV (R_pickF rfl rfl) rfl ?_
                  refine K_nil ?_
                  refine Q_then ?_
                  refine K_if rfl (fun h84 => ?_) (fun h84 => ?_)
                  ·
                    refine K_seq ?_
                    refine K_region ?_
                    refine KV (R_assign rfl) rfl ?_
                    refine K_nil ?_
                    refine Q_then ?_
                    refine K_ret ?_
                    refine Q_block_ret ?_
                    refine Q_then_ret ?_
                    refine Q_then_ret ?_
                    refine Q_block_ret ?_
                    refine Q_block_ret ?_
                    refine Q_then_ret ?_
                    refine Q_then_ret ?_
                    refine Q_block_ret ?_
                    refine Q_then_ret ?_
                    refine results_gen (rs := [.tmp 2]) (vs := [_]) rfl ⟨rfl, trivial⟩ ?_
                    have heb : entryBad d = true := List.any_eq_true.2 ⟨_, List.getElem_mem hs', List.any_eq_true.2 ⟨_, List.getElem_mem hk', by simp [badQ]; omega⟩⟩
                    simp only [tupV, dtErr]
                    rw [if_neg h12, if_neg (by omega), if_neg h29, hwb, heb]
                    rfl
                  ·
                    have hno2 : ∀ j (h : j < d.to[s].length), j < k + 1 → badQ d.acc.length d.to[s][j] = false := by
                      intro j h hj
                      by_cases e : j = k
                      · subst e; simp [badQ]; omega
                      · exact hno j h (by omega)
                    refine K_skip ?_
                    refine Q_block ?_
                    refine Q_then ?_
                    refine K_region ?_
                    refine KV (R_move rfl) rfl ?_
                    refine KV (R_add rfl rfl (by omega)) rfl ?_
                    refine KV (R_assign rfl) rfl ?_
                    refine K_nil ?_
                    refine Q_nextD (k + 1) ⟨hk', hno2⟩ (by (try dsimp only); omega) ⟨rfl, trivial⟩ rfl rfl rfl
              ·
                have hk' : k = d.to[s].length := by omega
                have hent2 : ∀ j (h : j < d.to.length), j < s + 1 → d.to[j].any (badQ d.acc.length) = false := by
                  intro j h hj
                  by_cases e : j = s
                  · subst e
                    rw [List.any_eq_false]
                    intro x hx
                    obtain ⟨i, hi, rfl⟩ := List.getElem_of_mem hx
                    simp [hno i hi (by omega)]
                  · exact hent j h (by omega)
                refine K_exit ?_
                refine Q_then_exit ?_
                refine Q_then_exit ?_
                refine Q_block_exit ?_
                refine Q_block ?_
                refine Q_then ?_
                refine K_region ?_
                refine KV (R_move rfl) rfl ?_
                refine KV (R_add rfl rfl (by omega)) rfl ?_
                refine KV (R_assign rfl) rfl ?_
                refine K_nil ?_
                refine Q_nextD (s + 1) ⟨hs', hent2⟩ (by (try dsimp only); omega) ⟨rfl, trivial⟩ rfl rfl rfl
            ·
              have heb : entryBad d = false := by
                unfold entryBad
                rw [List.any_eq_false]
                intro x hx
                obtain ⟨j, hj, rfl⟩ := List.getElem_of_mem hx
                simp [hent j hj (by omega)]
              refine K_exit ?_
              refine Q_then_exit ?_
              refine Q_then_exit ?_
              refine Q_block_exit ?_
              refine Q_then ?_
              refine K_seq ?_
              refine K_region ?_
              refine KV (R_assign rfl) rfl ?_
              refine K_nil ?_
              refine Q_then ?_
              refine K_ret ?_
              refine results_gen (rs := [.tmp 2]) (vs := [_]) rfl ⟨rfl, trivial⟩ ?_
              simp only [tupV, dtErr]
              rw [if_neg h12, if_neg (by omega), if_neg h29, hwb, heb]
              rfl

theorem rnodes_spec (rk : List Int) (rv : Value) (hrkl : rk.length ≤ 1099511627776) : ∀ m t H cs, t.size ≤ m → m ≤ 1099511627776 → RepT H t cs → SI H rv rk → Sat Tryz.prog F75 #[rv, .agg cs.toArray] H (fun r _ => r = .int .i64 (Tr.nodesErr rk t)) := by
  intro m
  induction m with
  | zero => intro t H cs h; have := t.size_pos; omega
  | succ m ih =>
  intro t H cs hm hb hr hrv
  cases hr with | mk s ts a cap b off cs' hs ha hA hrec =>
  obtain ⟨va, vc, rfl⟩ := hrv.shape
  have hsz : (Tr.node s ts).size = 1 + Tr.sizes ts := rfl
  have hln := Tr.length_le_sizes ts
  have hunf : Tr.nodesErr rk (.node s ts) = if s < 0 ∨ (rk.length : Int) ≤ s then 6 else if (ts.length : Int) ≠ rk.getD s.toNat 0 then 3 else Tr.nodesErrs rk ts := by simp only [Tr.nodesErr]
  refine enterO (n := 43) (args := [.slice va rk.length vc, .agg #[.int .i64 s, .slice a ts.length cap]]) Tryz.func41 rfl rfl rfl fun w0 => ?_
  refine K_seq ?_
  refine K_region ?_
  refine KA (A_box rfl) rfl fun b3 => ?_
  refine KV (R_assign rfl) rfl ?_
  refine K_nil ?_
  refine Q_then ?_
  refine K_seq ?_
  refine K_seq ?_
  refine K_region ?_
  refine KV (R_fieldAddr 0 fd24_0 rfl) rfl ?_
  refine KV (R_loadO ty3 0 rfl rfl rfl rfl (fun _ => rfl) rfl) rfl ?_
  refine KV (R_cmp rfl rfl rfl) rfl ?_
  refine KV (R_move rfl) rfl ?_
  refine K_split ?_ ?_
  ·
    intro h10
    refine K_gno rfl rfl rfl rfl ?_
    refine K_gno rfl rfl rfl rfl ?_
    refine K_gno rfl rfl rfl rfl ?_
    refine K_gno rfl rfl rfl rfl ?_
    refine K_gno rfl rfl rfl rfl ?_
    refine KV (R_pickT rfl rfl) rfl ?_
    refine K_nil ?_
    refine Q_then ?_
    refine K_ifT rfl ?_
    refine K_seq ?_
    refine K_region ?_
    refine KV (R_assign rfl) rfl ?_
    refine K_nil ?_
    refine Q_then ?_
    refine K_ret ?_
    refine Q_then_ret ?_
    refine results_gen (rs := [.tmp 4]) (vs := [_]) rfl ⟨rfl, trivial⟩ ?_
    rw [hunf, if_pos (.inl (by omega))]
    rfl
  ·
    intro h10
    refine K_gyes rfl rfl ?_
    refine KV (R_fieldAddr 0 fd24_0 rfl) rfl ?_
    refine K_gyes rfl rfl ?_
    refine KV (R_loadO ty3 0 rfl rfl rfl rfl (fun _ => rfl) rfl) rfl ?_
    refine K_gyes rfl rfl ?_
    refine KV (R_move rfl) rfl ?_
    refine K_gyes rfl rfl ?_
    refine KV (R_len sl25 rfl) rfl ?_
    refine K_gyes rfl rfl ?_
    refine KV (R_cmp rfl rfl rfl) rfl ?_
    refine KV (R_pickF rfl rfl) rfl ?_
    refine K_nil ?_
    refine Q_then ?_
    refine K_if rfl (fun h16 => ?_) (fun h16 => ?_)
    ·
      refine K_seq ?_
      refine K_region ?_
      refine KV (R_assign rfl) rfl ?_
      refine K_nil ?_
      refine Q_then ?_
      refine K_ret ?_
      refine Q_then_ret ?_
      refine results_gen (rs := [.tmp 4]) (vs := [_]) rfl ⟨rfl, trivial⟩ ?_
      rw [hunf, if_pos (.inr (by omega))]
      rfl
    ·
      have hs0 : 0 ≤ s := by omega
      have hs1 : s < rk.length := by omega
      have hs2 : s.toNat < rk.length := by omega
      obtain ⟨rb, ro, rfl, hrk⟩ := hrv.get hs2
      have hgd : rk.getD s.toNat 0 = rk[s.toNat] := by simp [List.getD, hs2]
      refine K_skip ?_
      refine Q_then ?_
      refine K_seq ?_
      refine K_seq ?_
      refine K_regionD (fin := false) (R := [0, 1, 2, 3, 4, 5, 6, 7, 8]) (by kernel_rfl) mixed (.cons_cons _ (List.nil_sublist _)) ?_
      refine D_val rfl rfl rfl (R_fieldAddr 1 fd24_1 rfl) ?_
      refine D_val rfl rfl rfl (R_loadO ty22 0 rfl rfl rfl rfl (fun _ => rfl) rfl) ?_
      refine D_val rfl rfl rfl (R_len sl22 rfl) ?_
      refine D_val rfl rfl rfl (R_move rfl) ?_
      refine D_val rfl rfl rfl (R_fieldAddr 0 fd24_0 rfl) ?_
      refine D_val rfl rfl rfl (R_loadO ty3 0 rfl rfl rfl rfl (fun _ => rfl) rfl) ?_
      refine D_val rfl rfl rfl (R_index sl25 ty3 rfl rfl ⟨hs0, hs1⟩) ?_
      refine D_val rfl rfl rfl (R_loadH ty3 rfl (hrk) rfl (fun _ => rfl) rfl) ?_
      refine D_val rfl rfl rfl (R_cmp rfl rfl rfl) ?_
      refine D_done ?_
      refine Q_then ?_
      refine K_if rfl (fun h25 => ?_) (fun h25 => ?_)
      ·
        refine K_seq ?_
        refine K_region ?_
        refine KV (R_assign rfl) rfl ?_
        refine K_nil ?_
        refine Q_then ?_
        refine K_ret ?_
        refine Q_then_ret ?_
        refine results_gen (rs := [.tmp 4]) (vs := [_]) rfl ⟨rfl, trivial⟩ ?_
        rw [hunf, if_neg (by omega), hgd, if_pos h25]
        rfl
      ·
        refine K_skip ?_
        refine Q_then ?_
        refine K_seq ?_
        refine K_seq ?_
        refine K_region ?_
        refine KV (R_assign rfl) rfl ?_
        refine K_nil ?_
        refine Q_then ?_
        refine K_block ?_
        refine K_loopD (G := Nat × View) [4, 5, 6, 26, 27, 28, 29, 30, 31, 32, 33, 34, 35, 36, 37, 38, 39, 40, 41, 42] (fun g => [(5, .int .i64 (g.1 : Int))]) (fun hl g => hl) (fun g => g.2) (fun g => (g.1 ≤ ts.length) ∧ (VLe H g.2) ∧ (Tr.nodesErrs rk ts = Tr.nodesErrs rk (ts.drop g.1))) (fun g => ts.length - g.1) (0, H) ⟨Nat.zero_le _, VLe.refl _, rfl⟩ ⟨rfl, trivial⟩ (by simp only [args0, Nat.reduceAdd, del, memN, beqN, Nat.reduceBEq, cond_true, cond_false]; rfl) rfl rfl ?_
        rintro ⟨k, V⟩ ⟨hk, hV, hcm⟩
        dsimp only at hk hV hcm
        dsimp only [List.set, List.cons_append, List.nil_append]
        refine K_seq ?_
        refine K_seq ?_
        refine K_region ?_
        refine KV (R_move rfl) rfl ?_
        refine KV (R_fieldAddr 1 fd24_1 rfl) rfl ?_
        refine KV (R_loadO ty22 0 rfl rfl rfl rfl (fun _ => rfl) rfl) rfl ?_
        refine KV (R_len sl22 rfl) rfl ?_
        refine KV (R_cmp rfl rfl rfl) rfl ?_
        refine K_nil ?_
        refine Q_then ?_
        refine K_if rfl (fun h30 => ?_) (fun h30 => ?_)
        ·
          have hlt' : k < ts.length := by omega
          have htk := Tr.sizes_take ts k hlt'
          have hle' := Tr.sizes_take_le ts (k + 1)
          have hcd := Tr.nodesErrs_cons (rk := rk) hlt'
          have ha' := ha (by intro e; subst e; simp at hlt')
          subst ha'
          refine K_skip ?_
          refine Q_then ?_
          refine K_seq ?_
          refine K_block ?_
          refine K_seq ?_
          refine K_region ?_
          refine KV (R_move rfl) rfl ?_
          refine KV (R_fieldAddr 1 fd24_1 rfl) rfl ?_
          refine KV (R_loadO ty22 0 rfl rfl rfl rfl (fun _ => rfl) rfl) rfl ?_
          refine KV (R_move rfl) rfl ?_
          refine KV (R_indexN sl22 ty24 rfl rfl (by omega)) rfl ?_
          refine KV (R_loadH ty24 rfl ((hA k hlt').2.mono hV) (hA k hlt').1 (fun e => by cases e) rfl) rfl ?_
          refine K_call c75 rfl rfl (ih ts[k] V (cs' k) (by omega) (by omega) ((hrec k hlt').mono hV) (hrv.mono hV)) ?_
          rintro _ V1 hle1 rfl
          refine KV (R_assign rfl) rfl ?_
          refine K_nil ?_
          refine Q_then ?_
          refine K_seq ?_
          refine K_region ?_
          refine KV (R_move rfl) rfl ?_
          refine KV (R_cmp rfl rfl rfl) rfl ?_
          refine K_nil ?_
          refine Q_then ?_
          refine K_if rfl (fun h41 => ?_) (fun h41 => ?_)
          ·
            refine K_seq ?_
            refine K_region ?_
            refine KV (R_move rfl) rfl ?_
            refine KV (R_assign rfl) rfl ?_
            refine K_nil ?_
            refine Q_then ?_
            refine K_ret ?_
            refine Q_block_ret ?_
            refine Q_then_ret ?_
            refine Q_then_ret ?_
            refine Q_block_ret ?_
            refine Q_then_ret ?_
            refine results_gen (rs := [.tmp 4]) (vs := [_]) rfl ⟨rfl, trivial⟩ ?_
            rw [hunf, if_neg (by omega), hgd, if_neg h25, hcm, hcd, if_pos h41]
            rfl
          ·
            refine K_skip ?_
            refine Q_block ?_
            refine Q_then ?_
            refine K_region ?_
            refine KV (R_move rfl) rfl ?_
            refine KV (R_add rfl rfl (by omega)) rfl ?_
            refine KV (R_assign rfl) rfl ?_
            refine K_nil ?_
            refine Q_nextD (k + 1, V1) ⟨hlt', hV.trans hle1, by rw [hcm, hcd, if_neg h41]⟩ (by (try dsimp only); omega) ⟨rfl, trivial⟩ rfl rfl rfl
        ·
          have hk' : k = ts.length := by omega
          subst hk'
          refine K_exit ?_
          refine Q_then_exit ?_
          refine Q_then_exit ?_
          refine Q_block_exit ?_
          refine Q_then ?_
          refine K_seq ?_
          refine K_region ?_
          refine KV (R_assign rfl) rfl ?_
          refine K_nil ?_
          refine Q_then ?_
          refine K_ret ?_
          refine results_gen (rs := [.tmp 4]) (vs := [_]) rfl ⟨rfl, trivial⟩ ?_
          rw [hunf, if_neg (by omega), hgd, if_neg h25, hcm, List.drop_length]
          rfl

theorem right_spec (rk : List Int) (rv : Value) (hrkl : rk.length ≤ 1099511627776) : ∀ m t H cs, t.size ≤ m → m ≤ 1099511627776 → RepT H t cs → SI H rv rk → Sat Tryz.prog F115 #[rv, .agg cs.toArray] H (fun r _ => r = .int .i64 (Tr.nodesErr rk t)) := by
  intro m
  induction m with
  | zero => intro t H cs h; have := t.size_pos; omega
  | succ m ih =>
  intro t H cs hm hb hr hrv
  cases hr with | mk s ts a cap b off cs' hs ha hA hrec =>
  obtain ⟨va, vc, rfl⟩ := hrv.shape
  have hsz : (Tr.node s ts).size = 1 + Tr.sizes ts := rfl
  have hln := Tr.length_le_sizes ts
  have hunf : Tr.nodesErr rk (.node s ts) = if s < 0 ∨ (rk.length : Int) ≤ s then 6 else if (ts.length : Int) ≠ rk.getD s.toNat 0 then 3 else Tr.nodesErrs rk ts := by simp only [Tr.nodesErr]
  refine enterO (n := 43) (args := [.slice va rk.length vc, .agg #[.int .i64 s, .slice a ts.length cap]]) Tryz.func76 rfl rfl rfl fun w0 => ?_
  refine K_seq ?_
  refine K_region ?_
  refine KA (A_box rfl) rfl fun b3 => ?_
  refine KV (R_assign rfl) rfl ?_
  refine K_nil ?_
  refine Q_then ?_
  refine K_seq ?_
  refine K_block ?_
  refine K_seq ?_
  refine K_region ?_
  refine KV (R_fieldAddr 0 fd30_0 rfl) rfl ?_
  refine KV (R_loadO ty3 0 rfl rfl rfl rfl (fun _ => rfl) rfl) rfl ?_
  refine KV (R_cmp rfl rfl rfl) rfl ?_
  refine KV (R_move rfl) rfl ?_
  refine K_split ?_ ?_
  ·
    intro h12
    refine K_gno rfl rfl rfl rfl ?_
    refine K_gno rfl rfl rfl rfl ?_
    refine K_gno rfl rfl rfl rfl ?_
    refine K_gno rfl rfl rfl rfl ?_
    refine K_gno rfl rfl rfl rfl ?_
    refine KV (R_pickT rfl rfl) rfl ?_
    refine KV (R_assign rfl) rfl ?_
    refine K_nil ?_
    refine Q_then ?_
    refine K_ifT rfl ?_
    refine K_seq ?_
    refine K_region ?_
    refine KV (R_assign rfl) rfl ?_
    refine K_nil ?_
    refine Q_then ?_
    refine K_ret ?_
    refine Q_block_ret ?_
    refine Q_then_ret ?_
    refine results_gen (rs := [.tmp 4]) (vs := [_]) rfl ⟨rfl, trivial⟩ ?_
    rw [hunf, if_pos (.inl (by omega))]
    rfl
  ·
    intro h12
    refine K_gyes rfl rfl ?_
    refine KV (R_fieldAddr 0 fd30_0 rfl) rfl ?_
    refine K_gyes rfl rfl ?_
    refine KV (R_loadO ty3 0 rfl rfl rfl rfl (fun _ => rfl) rfl) rfl ?_
    refine K_gyes rfl rfl ?_
    refine KV (R_move rfl) rfl ?_
    refine K_gyes rfl rfl ?_
    refine KV (R_len sl47 rfl) rfl ?_
    refine K_gyes rfl rfl ?_
    refine KV (R_cmp rfl rfl rfl) rfl ?_
    refine KV (R_pickF rfl rfl) rfl ?_
    refine KV (R_assign rfl) rfl ?_
    refine K_nil ?_
    refine Q_then ?_
    refine K_if rfl (fun h8 => ?_) (fun h8 => ?_)
    ·
      refine K_seq ?_
      refine K_region ?_
      refine KV (R_assign rfl) rfl ?_
      refine K_nil ?_
      refine Q_then ?_
      refine K_ret ?_
      refine Q_block_ret ?_
      refine Q_then_ret ?_
      refine results_gen (rs := [.tmp 4]) (vs := [_]) rfl ⟨rfl, trivial⟩ ?_
      rw [hunf, if_pos (.inr (by omega))]
      rfl
    ·
      have hs0 : 0 ≤ s := by omega
      have hs1 : s < rk.length := by omega
      have hs2 : s.toNat < rk.length := by omega
      obtain ⟨rb, ro, rfl, hrk⟩ := hrv.get hs2
      have hgd : rk.getD s.toNat 0 = rk[s.toNat] := by simp [List.getD, hs2]
      refine K_seq ?_
      refine K_regionD (fin := false) (R := [0, 1, 2, 3, 4, 5, 6, 7, 8, 9]) (by kernel_rfl) mixed (.cons_cons _ (List.nil_sublist _)) ?_
      refine D_val rfl rfl rfl (R_fieldAddr 1 fd30_1 rfl) ?_
      refine D_val rfl rfl rfl (R_loadO ty28 0 rfl rfl rfl rfl (fun _ => rfl) rfl) ?_
      refine D_val rfl rfl rfl (R_len sl28 rfl) ?_
      refine D_val rfl rfl rfl (R_move rfl) ?_
      refine D_val rfl rfl rfl (R_fieldAddr 0 fd30_0 rfl) ?_
      refine D_val rfl rfl rfl (R_loadO ty3 0 rfl rfl rfl rfl (fun _ => rfl) rfl) ?_
      refine D_val rfl rfl rfl (R_index sl47 ty3 rfl rfl ⟨hs0, hs1⟩) ?_
      refine D_val rfl rfl rfl (R_loadH ty3 rfl (hrk) rfl (fun _ => rfl) rfl) ?_
      refine D_val rfl rfl rfl (R_cmp rfl rfl rfl) ?_
      refine D_val rfl rfl rfl (R_assign rfl) ?_
      refine D_done ?_
      refine Q_then ?_
      refine K_if rfl (fun h19 => ?_) (fun h19 => ?_)
      ·
        refine K_seq ?_
        refine K_region ?_
        refine KV (R_assign rfl) rfl ?_
        refine K_nil ?_
        refine Q_then ?_
        refine K_ret ?_
        refine Q_block_ret ?_
        refine Q_then_ret ?_
        refine results_gen (rs := [.tmp 4]) (vs := [_]) rfl ⟨rfl, trivial⟩ ?_
        rw [hunf, if_neg (by omega), hgd, if_pos h19]
        rfl
      ·
        refine K_skip ?_
        refine Q_block ?_
        refine Q_then ?_
        refine K_seq ?_
        refine K_seq ?_
        refine K_region ?_
        refine KV (R_fieldAddr 1 fd30_1 rfl) rfl ?_
        refine KV (R_loadO ty28 0 rfl rfl rfl rfl (fun _ => rfl) rfl) rfl ?_
        refine KV (R_len sl28 rfl) rfl ?_
        refine KV (R_move rfl) rfl ?_
        refine K_nil ?_
        refine Q_then ?_
        refine K_block ?_
        refine K_loopD (G := Nat × View) [4, 6, 7, 32, 33, 34, 35, 36, 37, 38, 39, 40, 41, 42] (fun g => [(32, .int .i64 (g.1 : Int))]) (fun hl g => hl) (fun g => g.2) (fun g => (g.1 ≤ ts.length) ∧ (VLe H g.2) ∧ (Tr.nodesErrs rk ts = Tr.nodesErrs rk (ts.drop g.1))) (fun g => ts.length - g.1) (0, H) ⟨Nat.zero_le _, VLe.refl _, rfl⟩ ⟨rfl, trivial⟩ (by simp only [args0, Nat.reduceAdd, del, memN, beqN, Nat.reduceBEq, cond_true, cond_false]; rfl) rfl rfl ?_
        rintro ⟨k, V⟩ ⟨hk, hV, hcm⟩
        dsimp only at hk hV hcm
        dsimp only [List.set, List.cons_append, List.nil_append]
        refine K_seq ?_
        refine K_region ?_
        refine KV (R_cmp rfl rfl rfl) rfl ?_
        refine K_nil ?_
        refine Q_then ?_
        refine K_seq ?_
        refine K_if rfl (fun h33 => ?_) (fun h33 => ?_)
        ·
          have hlt' : k < ts.length := by omega
          have htk := Tr.sizes_take ts k hlt'
          have hle' := Tr.sizes_take_le ts (k + 1)
          have hcd := Tr.nodesErrs_cons (rk := rk) hlt'
          have ha' := ha (by intro e; subst e; simp at hlt')
          subst ha'
          obtain ⟨y0, y1, y2, y3, hcs⟩ := (hrec k hlt').shape
          have hreck := (hrec k hlt').mono hV
          rw [hcs] at hreck
          refine K_skip ?_
          refine Q_then ?_
          refine K_seq ?_
          refine K_block ?_
          refine K_seq ?_
          refine K_region ?_
          refine KV (R_indexN sl28 ty30 rfl rfl (by omega)) rfl ?_
          refine KV (R_loadH ty30 rfl (hcs ▸ (hA k hlt').2.mono hV) rfl (fun e => by cases e) rfl) rfl ?_
          refine KA (A_alloc z30) rfl fun b6 => ?_
          refine K_store ty30 0 rfl rfl rfl rfl rfl rfl ?_
          refine K_nil ?_
          refine Q_then ?_
          refine K_seq ?_
          refine K_region ?_
          refine KV (R_move rfl) rfl ?_
          refine KV (R_loadO ty30 0 rfl rfl rfl rfl (fun e => by cases e) rfl) rfl ?_
          refine K_call c115 rfl rfl (ih ts[k] V _ (by omega) (by omega) hreck (hrv.mono hV)) ?_
          rintro _ V1 hle1 rfl
          refine KV (R_assign rfl) rfl ?_
          refine K_nil ?_
          refine Q_then ?_
          refine K_seq ?_
          refine K_region ?_
          refine KV (R_move rfl) rfl ?_
          refine KV (R_cmp rfl rfl rfl) rfl ?_
          refine K_nil ?_
          refine Q_then ?_
          refine K_if rfl (fun h40 => ?_) (fun h40 => ?_)
          ·
            refine K_seq ?_
            refine K_region ?_
            refine KV (R_move rfl) rfl ?_
            refine KV (R_assign rfl) rfl ?_
            refine K_nil ?_
            refine Q_then ?_
            refine K_ret ?_
            refine Q_block_ret ?_
            refine Q_then_ret ?_
            refine Q_then_ret ?_
            refine Q_block_ret ?_
            refine Q_then_ret ?_
            refine results_gen (rs := [.tmp 4]) (vs := [_]) rfl ⟨rfl, trivial⟩ ?_
            rw [hunf, if_neg (by omega), hgd, if_neg h19, hcm, hcd, if_pos h40]
            rfl
          ·
            refine K_skip ?_
            refine Q_block ?_
            refine Q_then ?_
            refine K_region ?_
            refine KV (R_add rfl rfl (by omega)) rfl ?_
            refine KV (R_move rfl) rfl ?_
            refine K_nil ?_
            refine KQ_sel [1] rfl ?_
            refine Q_nextD (k + 1, V1) ⟨hlt', hV.trans hle1, by rw [hcm, hcd, if_neg h40]⟩ (by (try dsimp only); omega) ⟨rfl, trivial⟩ rfl rfl rfl
        ·
          have hk' : k = ts.length := by omega
          subst hk'
          refine K_exit ?_
          refine Q_then_exit ?_
          refine Q_then_exit ?_
          refine Q_block_exit ?_
          refine Q_then ?_
          refine K_seq ?_
          refine K_region ?_
          refine KV (R_assign rfl) rfl ?_
          refine K_nil ?_
          refine Q_then ?_
          refine K_ret ?_
          refine results_gen (rs := [.tmp 4]) (vs := [_]) rfl ⟨rfl, trivial⟩ ?_
          rw [hunf, if_neg (by omega), hgd, if_neg h19, hcm, List.drop_length]
          rfl

theorem psize_spec : ∀ m t H cs, t.size ≤ m → m ≤ 1099511627776 → RepT H t cs → Sat Tryz.prog F118 #[.agg cs.toArray] H (fun v _ => v = .int .i64 (t.size : Int)) := by
  intro m
  induction m with
  | zero => intro t H cs h; have := t.size_pos; omega
  | succ m ih =>
  intro t H cs hm hb hr
  cases hr with | mk s ts a cap b off cs' hs ha hA hrec =>
  have hsz : (Tr.node s ts).size = 1 + Tr.sizes ts := rfl
  have hln := Tr.length_le_sizes ts
  have hdl := Tr.deeps_le ts
  refine enterO (n := 19) (args := [.agg #[.int .i64 s, .slice a ts.length cap]]) Tryz.func106 rfl rfl rfl fun w0 => ?_
  refine K_seq ?_
  refine K_region ?_
  refine KA (A_box rfl) rfl fun b1 => ?_
  refine KV (R_assign rfl) rfl ?_
  refine K_nil ?_
  refine Q_then ?_
  refine K_seq ?_
  refine K_region ?_
  refine KV (R_assign rfl) rfl ?_
  refine K_nil ?_
  refine Q_then ?_
  refine K_seq ?_
  refine K_seq ?_
  refine K_region ?_
  refine KV (R_fieldAddr 1 fd30_1 rfl) rfl ?_
  refine KV (R_loadO ty28 0 rfl rfl rfl rfl (fun _ => rfl) rfl) rfl ?_
  refine KV (R_len sl28 rfl) rfl ?_
  refine KV (R_move rfl) rfl ?_
  refine K_nil ?_
  refine Q_then ?_
  refine K_block ?_
  refine K_loopD (G := Nat × View) [3, 5, 9, 10, 11, 12, 13, 14, 15, 16, 17] (fun g => [(9, .int .i64 (g.1 : Int)), (3, .int .i64 (1 + (Tr.sizes (ts.take g.1) : Int)))]) (fun hl g => hl) (fun g => g.2) (fun g => (g.1 ≤ ts.length) ∧ (VLe H g.2)) (fun g => ts.length - g.1) (0, H) ⟨Nat.zero_le _, VLe.refl _⟩ ⟨rfl, rfl, trivial⟩ (by simp only [args0, Nat.reduceAdd, del, memN, beqN, Nat.reduceBEq, cond_true, cond_false]; rfl) rfl rfl ?_
  rintro ⟨k, V⟩ ⟨hk, hV⟩
  dsimp only at hk hV
  dsimp only [List.set, List.cons_append, List.nil_append]
  refine K_seq ?_
  refine K_region ?_
  refine KV (R_cmp rfl rfl rfl) rfl ?_
  refine K_nil ?_
  refine Q_then ?_
  refine K_seq ?_
  refine K_if rfl (fun h10 => ?_) (fun h10 => ?_)
  ·
    have hlt' : k < ts.length := by omega
    have htk := Tr.sizes_take ts k hlt'
    have hle' := Tr.sizes_take_le ts (k + 1)
    have hdk := Tr.deeps_take ts k hlt'
    have hdk2 := Tr.deeps_append (ts.take (k + 1)) (ts.drop (k + 1))
    rw [List.take_append_drop] at hdk2
    have ha' := ha (by intro e; subst e; simp at hlt')
    subst ha'
    obtain ⟨y0, y1, y2, y3, hcs⟩ := (hrec k hlt').shape
    have hreck := (hrec k hlt').mono hV
    rw [hcs] at hreck
    refine K_skip ?_
    refine Q_then ?_
    refine K_seq ?_
    refine K_block ?_
    refine K_seq ?_
    refine K_region ?_
    refine KV (R_indexN sl28 ty30 rfl rfl (by omega)) rfl ?_
    refine KV (R_loadH ty30 rfl (hcs ▸ (hA k hlt').2.mono hV) rfl (fun e => by cases e) rfl) rfl ?_
    refine KA (A_alloc z30) rfl fun b5 => ?_
    refine K_store ty30 0 rfl rfl rfl rfl rfl rfl ?_
    refine K_nil ?_
    refine Q_then ?_
    refine K_region ?_
    refine KV (R_move rfl) rfl ?_
    refine KV (R_loadO ty30 0 rfl rfl rfl rfl (fun e => by cases e) rfl) rfl ?_
    refine K_call c118 rfl rfl (ih ts[k] V _ (by omega) (by omega) hreck) ?_
    rintro _ V1 hle1 rfl
    refine KV (R_add rfl rfl (by omega)) rfl ?_
    refine KV (R_assign rfl) rfl ?_
    refine K_nil ?_
    refine Q_block ?_
    refine Q_then ?_
    refine K_region ?_
    refine KV (R_add rfl rfl (by omega)) rfl ?_
    refine KV (R_move rfl) rfl ?_
    refine K_nil ?_
    refine KQ_sel [1] rfl ?_
    refine Q_nextD (k + 1, V1) ⟨hlt', hV.trans hle1⟩ (by (try dsimp only); omega) ⟨rfl, congrArg (fun z => some (Value.int .i64 z)) (by dsimp only; omega), trivial⟩ rfl rfl rfl
  ·
    have hk' : k = ts.length := by omega
    subst hk'
    rw [List.take_length]
    refine K_exit ?_
    refine Q_then_exit ?_
    refine Q_then_exit ?_
    refine Q_block_exit ?_
    refine Q_then ?_
    refine K_seq ?_
    refine K_region ?_
    refine KV (R_move rfl) rfl ?_
    refine KV (R_assign rfl) rfl ?_
    refine K_nil ?_
    refine Q_then ?_
    refine K_ret ?_
    refine results_gen (rs := [.tmp 2]) (vs := [_]) rfl ⟨rfl, trivial⟩ ?_
    simp [tupV, Tr.size]

theorem pdepth_spec : ∀ m t H cs, t.size ≤ m → m ≤ 1099511627776 → RepT H t cs → Sat Tryz.prog F119 #[.agg cs.toArray] H (fun v _ => v = .int .i64 (t.deep : Int)) := by
  intro m
  induction m with
  | zero => intro t H cs h; have := t.size_pos; omega
  | succ m ih =>
  intro t H cs hm hb hr
  cases hr with | mk s ts a cap b off cs' hs ha hA hrec =>
  have hsz : (Tr.node s ts).size = 1 + Tr.sizes ts := rfl
  have hln := Tr.length_le_sizes ts
  have hdl := Tr.deeps_le ts
  refine enterO (n := 20) (args := [.agg #[.int .i64 s, .slice a ts.length cap]]) Tryz.func107 rfl rfl rfl fun w0 => ?_
  refine K_seq ?_
  refine K_region ?_
  refine KA (A_box rfl) rfl fun b1 => ?_
  refine KV (R_assign rfl) rfl ?_
  refine K_nil ?_
  refine Q_then ?_
  refine K_seq ?_
  refine K_region ?_
  refine KV (R_assign rfl) rfl ?_
  refine K_nil ?_
  refine Q_then ?_
  refine K_seq ?_
  refine K_seq ?_
  refine K_region ?_
  refine KV (R_fieldAddr 1 fd30_1 rfl) rfl ?_
  refine KV (R_loadO ty28 0 rfl rfl rfl rfl (fun _ => rfl) rfl) rfl ?_
  refine KV (R_len sl28 rfl) rfl ?_
  refine KV (R_move rfl) rfl ?_
  refine K_nil ?_
  refine Q_then ?_
  refine K_block ?_
  refine K_loopD (G := Nat × View) [3, 5, 9, 10, 11, 12, 13, 14, 15, 16, 17] (fun g => [(9, .int .i64 (g.1 : Int)), (3, .int .i64 (Tr.deeps (ts.take g.1) : Int))]) (fun hl g => hl) (fun g => g.2) (fun g => (g.1 ≤ ts.length) ∧ (VLe H g.2)) (fun g => ts.length - g.1) (0, H) ⟨Nat.zero_le _, VLe.refl _⟩ ⟨rfl, rfl, trivial⟩ (by simp only [args0, Nat.reduceAdd, del, memN, beqN, Nat.reduceBEq, cond_true, cond_false]; rfl) rfl rfl ?_
  rintro ⟨k, V⟩ ⟨hk, hV⟩
  dsimp only at hk hV
  dsimp only [List.set, List.cons_append, List.nil_append]
  refine K_seq ?_
  refine K_region ?_
  refine KV (R_cmp rfl rfl rfl) rfl ?_
  refine K_nil ?_
  refine Q_then ?_
  refine K_seq ?_
  refine K_if rfl (fun h10 => ?_) (fun h10 => ?_)
  ·
    have hlt' : k < ts.length := by omega
    have htk := Tr.sizes_take ts k hlt'
    have hle' := Tr.sizes_take_le ts (k + 1)
    have hdk := Tr.deeps_take ts k hlt'
    have hdk2 := Tr.deeps_append (ts.take (k + 1)) (ts.drop (k + 1))
    rw [List.take_append_drop] at hdk2
    have ha' := ha (by intro e; subst e; simp at hlt')
    subst ha'
    obtain ⟨y0, y1, y2, y3, hcs⟩ := (hrec k hlt').shape
    have hreck := (hrec k hlt').mono hV
    rw [hcs] at hreck
    refine K_skip ?_
    refine Q_then ?_
    refine K_seq ?_
    refine K_block ?_
    refine K_seq ?_
    refine K_region ?_
    refine KV (R_indexN sl28 ty30 rfl rfl (by omega)) rfl ?_
    refine KV (R_loadH ty30 rfl (hcs ▸ (hA k hlt').2.mono hV) rfl (fun e => by cases e) rfl) rfl ?_
    refine KA (A_alloc z30) rfl fun b5 => ?_
    refine K_store ty30 0 rfl rfl rfl rfl rfl rfl ?_
    refine K_nil ?_
    refine Q_then ?_
    refine K_region ?_
    refine KV (R_move rfl) rfl ?_
    refine KV (R_loadO ty30 0 rfl rfl rfl rfl (fun e => by cases e) rfl) rfl ?_
    refine K_call c119 rfl rfl (ih ts[k] V _ (by omega) (by omega) hreck) ?_
    rintro _ V1 hle1 rfl
    refine KV (R_max2 rfl rfl) rfl ?_
    refine KV (R_assign rfl) rfl ?_
    refine K_nil ?_
    refine Q_block ?_
    refine Q_then ?_
    refine K_region ?_
    refine KV (R_add rfl rfl (by omega)) rfl ?_
    refine KV (R_move rfl) rfl ?_
    refine K_nil ?_
    refine KQ_sel [1] rfl ?_
    refine Q_nextD (k + 1, V1) ⟨hlt', hV.trans hle1⟩ (by (try dsimp only); omega) ⟨rfl, congrArg (fun z => some (Value.int .i64 z)) (by dsimp only; split <;> omega), trivial⟩ rfl rfl rfl
  ·
    have hk' : k = ts.length := by omega
    subst hk'
    rw [List.take_length]
    refine K_exit ?_
    refine Q_then_exit ?_
    refine Q_then_exit ?_
    refine Q_block_exit ?_
    refine Q_then ?_
    refine K_seq ?_
    refine K_region ?_
    refine KV (R_move rfl) rfl ?_
    refine KV (R_add rfl rfl (by omega)) rfl ?_
    refine KV (R_assign rfl) rfl ?_
    refine K_nil ?_
    refine Q_then ?_
    refine K_ret ?_
    refine results_gen (rs := [.tmp 2]) (vs := [_]) rfl ⟨rfl, trivial⟩ ?_
    simp [tupV, Tr.deep]

theorem psmall_spec (t : Tr) (H : View) (cs : List Value) (hb : t.size ≤ 1073741824) (hr : RepT H t cs) : Sat Tryz.prog F114 #[.agg cs.toArray] H (fun r _ => r = .int .i64 (if (4096 : Int) < t.size then 2 else if (256 : Int) < t.deep then 16 else 0)) := by
  obtain ⟨x0, x1, x2, x3, rfl⟩ := hr.shape
  refine enterO (n := 11) (args := [.agg #[.int .i64 x0, .slice x1 x2 x3]]) Tryz.func75 rfl rfl rfl fun w0 => ?_
  refine K_seq ?_
  refine K_region ?_
  refine KA (A_box rfl) rfl fun b1 => ?_
  refine KV (R_assign rfl) rfl ?_
  refine K_nil ?_
  refine Q_then ?_
  refine K_seq ?_
  refine K_block ?_
  refine K_seq ?_
  refine K_region ?_
  refine KV (R_loadO ty30 0 rfl rfl rfl rfl (fun e => by cases e) rfl) rfl ?_
  refine K_call c118 rfl rfl (psize_spec t.size t H _ (Nat.le_refl _) (by omega) hr) ?_
  rintro _ V1 hv1 rfl
  refine KV (R_cmp rfl rfl rfl) rfl ?_
  refine KV (R_assign rfl) rfl ?_
  refine K_nil ?_
  refine Q_then ?_
  refine K_if rfl (fun h3 => ?_) (fun h3 => ?_)
  ·
    refine K_seq ?_
    refine K_region ?_
    refine KV (R_assign rfl) rfl ?_
    refine K_nil ?_
    refine Q_then ?_
    refine K_ret ?_
    refine Q_block_ret ?_
    refine Q_then_ret ?_
    refine results_gen (rs := [.tmp 2]) (vs := [_]) rfl ⟨rfl, trivial⟩ ?_
    rw [if_pos h3]
    rfl
  ·
    refine K_seq ?_
    refine K_region ?_
    refine KV (R_loadO ty30 0 rfl rfl rfl rfl (fun e => by cases e) rfl) rfl ?_
    refine K_call c119 rfl rfl (pdepth_spec t.size t V1 _ (Nat.le_refl _) (by omega) (hr.mono hv1)) ?_
    rintro _ V2 hv2 rfl
    refine KV (R_cmp rfl rfl rfl) rfl ?_
    refine KV (R_assign rfl) rfl ?_
    refine K_nil ?_
    refine Q_then ?_
    refine K_if rfl (fun h7 => ?_) (fun h7 => ?_)
    ·
      refine K_seq ?_
      refine K_region ?_
      refine KV (R_assign rfl) rfl ?_
      refine K_nil ?_
      refine Q_then ?_
      refine K_ret ?_
      refine Q_block_ret ?_
      refine Q_then_ret ?_
      refine results_gen (rs := [.tmp 2]) (vs := [_]) rfl ⟨rfl, trivial⟩ ?_
      rw [if_neg h3, if_pos h7]
      rfl
    ·
      refine K_skip ?_
      refine Q_block ?_
      refine Q_then ?_
      refine K_seq ?_
      refine K_region ?_
      refine KV (R_assign rfl) rfl ?_
      refine K_nil ?_
      refine Q_then ?_
      refine K_ret ?_
      refine results_gen (rs := [.tmp 2]) (vs := [_]) rfl ⟨rfl, trivial⟩ ?_
      rw [if_neg h3, if_neg h7]
      rfl

theorem pvalid_spec (rk : List Int) (rv : Value) (t : Tr) (H : View) (cs : List Value) (hrkl : rk.length ≤ 1048576) (hb : t.size ≤ 1073741824) (hr : RepT H t cs) (hrv : SI H rv rk) : Sat Tryz.prog F98 #[rv, .agg cs.toArray] H (fun r _ => r = .int .i64 (validErr rk t)) := by
  obtain ⟨x0, x1, x2, x3, rfl⟩ := hr.shape
  obtain ⟨va, vc, rfl⟩ := hrv.shape
  refine enterO (n := 20) (args := [.slice va rk.length vc, .agg #[.int .i64 x0, .slice x1 x2 x3]]) Tryz.func35 rfl rfl rfl fun w0 => ?_
  refine K_seq ?_
  refine K_region ?_
  refine KA (A_box rfl) rfl fun b3 => ?_
  refine KV (R_assign rfl) rfl ?_
  refine K_nil ?_
  refine Q_then ?_
  refine K_seq ?_
  refine K_seq ?_
  refine K_region ?_
  refine KV (R_move rfl) rfl ?_
  refine K_call c72 rfl rfl (acheck_spec rk _ H hrv (by omega)) ?_
  rintro _ V1 hv1 rfl
  refine KV (R_assign rfl) rfl ?_
  refine K_nil ?_
  refine Q_then ?_
  refine K_seq ?_
  refine K_region ?_
  refine KV (R_move rfl) rfl ?_
  refine KV (R_cmp rfl rfl rfl) rfl ?_
  refine K_nil ?_
  refine Q_then ?_
  refine K_if rfl (fun h10 => ?_) (fun h10 => ?_)
  ·
    refine K_seq ?_
    refine K_region ?_
    refine KV (R_move rfl) rfl ?_
    refine KV (R_assign rfl) rfl ?_
    refine K_nil ?_
    refine Q_then ?_
    refine K_ret ?_
    refine Q_then_ret ?_
    refine results_gen (rs := [.tmp 4]) (vs := [_]) rfl ⟨rfl, trivial⟩ ?_
    simp only [tupV, validErr]
    rw [if_pos h10]
  ·
    refine K_skip ?_
    refine Q_then ?_
    refine K_seq ?_
    refine K_seq ?_
    refine K_region ?_
    refine KV (R_loadO ty30 0 rfl rfl rfl rfl (fun e => by cases e) rfl) rfl ?_
    refine K_call c114 rfl rfl (psmall_spec t V1 _ hb (hr.mono hv1)) ?_
    rintro _ V2 hv2 rfl
    refine KV (R_assign rfl) rfl ?_
    refine K_nil ?_
    refine Q_then ?_
    refine K_seq ?_
    refine K_region ?_
    refine KV (R_move rfl) rfl ?_
    refine KV (R_cmp rfl rfl rfl) rfl ?_
    refine K_nil ?_
    refine Q_then ?_
    refine K_if rfl (fun h15 => ?_) (fun h15 => ?_)
    ·
      refine K_seq ?_
      refine K_region ?_
      refine KV (R_move rfl) rfl ?_
      refine KV (R_assign rfl) rfl ?_
      refine K_nil ?_
      refine Q_then ?_
      refine K_ret ?_
      refine Q_then_ret ?_
      refine results_gen (rs := [.tmp 4]) (vs := [_]) rfl ⟨rfl, trivial⟩ ?_
      simp only [tupV, validErr]
      rw [if_neg h10]
      refine congrArg (Value.int .i64) ?_
      split
      · rfl
      · split
        · rfl
        · rename_i g1 g2; rw [if_neg g1, if_neg g2] at h15; exact absurd rfl h15
    ·
      refine K_skip ?_
      refine Q_then ?_
      refine K_seq ?_
      refine K_region ?_
      refine KV (R_move rfl) rfl ?_
      refine KV (R_loadO ty30 0 rfl rfl rfl rfl (fun e => by cases e) rfl) rfl ?_
      refine K_call c115 rfl rfl (right_spec rk _ (by omega) t.size t V2 _ (Nat.le_refl _) (by omega) (hr.mono (hv1.trans hv2)) (hrv.mono (hv1.trans hv2))) ?_
      rintro _ V3 hv3 rfl
      refine KV (R_assign rfl) rfl ?_
      refine K_nil ?_
      refine Q_then ?_
      refine K_ret ?_
      refine results_gen (rs := [.tmp 4]) (vs := [_]) rfl ⟨rfl, trivial⟩ ?_
      simp only [tupV, validErr]
      rw [if_neg h10]
      refine congrArg (Value.int .i64) ?_
      split
      · rename_i g1; rw [if_pos g1] at h15; exact absurd h15 (by decide)
      · split
        · rename_i g1 g2; rw [if_neg g1, if_pos g2] at h15; exact absurd h15 (by decide)
        · rfl

theorem rvalid_spec (rk : List Int) (rv : Value) (t : Tr) (H : View) (cs : List Value) (hrkl : rk.length ≤ 1048576) (hb : t.size ≤ 1073741824) (hr : RepT H t cs) (hrv : SI H rv rk) : Sat Tryz.prog F39 #[rv, .agg cs.toArray] H (fun r _ => r = .int .i64 (validErr rk t)) := by
  obtain ⟨x0, x1, x2, x3, rfl⟩ := hr.shape
  obtain ⟨va, vc, rfl⟩ := hrv.shape
  refine enterO (n := 20) (args := [.slice va rk.length vc, .agg #[.int .i64 x0, .slice x1 x2 x3]]) Tryz.func15 rfl rfl rfl fun w0 => ?_
  refine K_seq ?_
  refine K_region ?_
  refine KA (A_box rfl) rfl fun b3 => ?_
  refine KV (R_assign rfl) rfl ?_
  refine K_nil ?_
  refine Q_then ?_
  refine K_seq ?_
  refine K_seq ?_
  refine K_region ?_
  refine KV (R_move rfl) rfl ?_
  refine K_call c36 rfl rfl (rcheck31_spec rk _ H hrv (by omega)) ?_
  rintro _ V1 hv1 rfl
  refine KV (R_assign rfl) rfl ?_
  refine K_nil ?_
  refine Q_then ?_
  refine K_seq ?_
  refine K_region ?_
  refine KV (R_move rfl) rfl ?_
  refine KV (R_cmp rfl rfl rfl) rfl ?_
  refine K_nil ?_
  refine Q_then ?_
  refine K_if rfl (fun h9 => ?_) (fun h9 => ?_)
  ·
    refine K_seq ?_
    refine K_region ?_
    refine KV (R_move rfl) rfl ?_
    refine KV (R_assign rfl) rfl ?_
    refine K_nil ?_
    refine Q_then ?_
    refine K_ret ?_
    refine Q_then_ret ?_
    refine results_gen (rs := [.tmp 4]) (vs := [_]) rfl ⟨rfl, trivial⟩ ?_
    simp only [tupV, validErr]
    rw [if_pos h9]
  ·
    refine K_skip ?_
    refine Q_then ?_
    refine K_seq ?_
    refine K_seq ?_
    refine K_region ?_
    refine KV (R_loadO ty24 0 rfl rfl rfl rfl (fun e => by cases e) rfl) rfl ?_
    refine K_call c8 rfl rfl (size_spec t.size t V1 _ (Nat.le_refl _) (by omega) (hr.mono hv1)) ?_
    rintro _ V2 hv2 rfl
    refine KV (R_cmp rfl rfl rfl) rfl ?_
    refine K_nil ?_
    refine Q_then ?_
    refine K_if rfl (fun h13 => ?_) (fun h13 => ?_)
    ·
      refine K_seq ?_
      refine K_region ?_
      refine KV (R_assign rfl) rfl ?_
      refine K_nil ?_
      refine Q_then ?_
      refine K_ret ?_
      refine Q_then_ret ?_
      refine results_gen (rs := [.tmp 4]) (vs := [_]) rfl ⟨rfl, trivial⟩ ?_
      simp only [tupV, validErr]
      rw [if_neg h9, if_pos h13]
    ·
      refine K_skip ?_
      refine Q_then ?_
      refine K_seq ?_
      refine K_seq ?_
      refine K_region ?_
      refine KV (R_loadO ty24 0 rfl rfl rfl rfl (fun e => by cases e) rfl) rfl ?_
      refine K_call c9 rfl rfl (deep_spec t.size t V2 _ (Nat.le_refl _) (by omega) (hr.mono (hv1.trans hv2))) ?_
      rintro _ V3 hv3 rfl
      refine KV (R_cmp rfl rfl rfl) rfl ?_
      refine K_nil ?_
      refine Q_then ?_
      refine K_if rfl (fun h16 => ?_) (fun h16 => ?_)
      ·
        refine K_seq ?_
        refine K_region ?_
        refine KV (R_assign rfl) rfl ?_
        refine K_nil ?_
        refine Q_then ?_
        refine K_ret ?_
        refine Q_then_ret ?_
        refine results_gen (rs := [.tmp 4]) (vs := [_]) rfl ⟨rfl, trivial⟩ ?_
        simp only [tupV, validErr]
        rw [if_neg h9, if_neg h13, if_pos h16]
      ·
        refine K_skip ?_
        refine Q_then ?_
        refine K_seq ?_
        refine K_region ?_
        refine KV (R_move rfl) rfl ?_
        refine KV (R_loadO ty24 0 rfl rfl rfl rfl (fun e => by cases e) rfl) rfl ?_
        refine K_call c75 rfl rfl (rnodes_spec rk _ (by omega) t.size t V3 _ (Nat.le_refl _) (by omega) (hr.mono (hv1.trans (hv2.trans hv3))) (hrv.mono (hv1.trans (hv2.trans hv3)))) ?_
        rintro _ V4 hv4 rfl
        refine KV (R_assign rfl) rfl ?_
        refine K_nil ?_
        refine Q_then ?_
        refine K_ret ?_
        refine results_gen (rs := [.tmp 4]) (vs := [_]) rfl ⟨rfl, trivial⟩ ?_
        simp only [tupV, validErr]
        rw [if_neg h9, if_neg h13, if_neg h16]
end Go.Proofs.X

namespace Go.Proofs.X
open Go Pal Go.Proofs
attribute [local irreducible] Pal.KO Pal.KC Pal.KQ Pal.KD
theorem c63 : callable Tryz.prog F63 = true := by kernel_rfl
theorem c76 : callable Tryz.prog F76 = true := by kernel_rfl
theorem c91 : callable Tryz.prog F91 = true := by kernel_rfl
theorem c98 : callable Tryz.prog F98 = true := by kernel_rfl
theorem c99 : callable Tryz.prog F99 = true := by kernel_rfl
theorem maps_spec (ls src dst : List Int) (v1 v2 v3 : Value) (H : View) (h1 : SI H v1 ls) (h2 : SI H v2 src) (h3 : SI H v3 dst) (hb1 : ls.length ≤ 1099511627776) : Sat Tryz.prog F37 #[v1, v2, v3] H (fun r _ => r = .bool (mapsM ls src dst)) := by
  obtain ⟨a1, k1, rfl⟩ := h1.shape
  obtain ⟨a2, k2, rfl⟩ := h2.shape
  obtain ⟨a3, k3, rfl⟩ := h3.shape
  refine enterO (n := 47) (args := [.slice a1 ls.length k1, .slice a2 src.length k2, .slice a3 dst.length k3]) Tryz.func14 rfl rfl rfl fun w0 => ?_
  refine K_seq ?_
  refine K_region ?_
  refine KV (R_assign rfl) rfl ?_
  refine K_nil ?_
  refine Q_then ?_
  refine K_seq ?_
  refine K_seq ?_
  refine K_region ?_
  refine KV (R_move rfl) rfl ?_
  refine KV (R_len sl25 rfl) rfl ?_
  refine KV (R_move rfl) rfl ?_
  refine KV (R_len sl25 rfl) rfl ?_
  refine KV (R_cmp rfl rfl rfl) rfl ?_
  refine K_nil ?_
  refine Q_then ?_
  refine K_if rfl (fun h12 => ?_) (fun h12 => ?_)
  ·
    refine K_seq ?_
    refine K_region ?_
    refine KV (R_assign rfl) rfl ?_
    refine K_nil ?_
    refine Q_then ?_
    refine K_ret ?_
    refine Q_then_ret ?_
    refine results_gen (rs := [.tmp 6]) (vs := [_]) rfl ⟨rfl, trivial⟩ ?_
    refine congrArg Value.bool (Eq.symm ?_)
    first
      | exact mapsM_iff.2 ⟨by omega, fun j h h2 => hyes j h h2 (by omega)⟩
      | (rw [Bool.eq_false_iff]; intro hm; obtain ⟨g1, g2⟩ := mapsM_iff.1 hm; first | omega | (have g3 := g2 k hk' hk2; first | omega | (rw [hgd] at g3; omega)))
  ·
    refine K_skip ?_
    refine Q_then ?_
    refine K_seq ?_
    refine K_seq ?_
    refine K_region ?_
    refine KV (R_assign rfl) rfl ?_
    refine K_nil ?_
    refine Q_then ?_
    refine K_block ?_
    refine K_loopD (G := Nat) [6, 7, 13, 14, 15, 16, 17, 18, 19, 20, 21, 22, 23, 24, 25, 26, 27, 28, 29, 30, 31, 32, 33, 34, 35, 36, 37, 38, 39, 40, 41, 42, 43, 44, 45, 46] (fun g => [(7, .int .i64 (g : Int))]) (fun hl g => hl) (fun g => H) (fun g => (g ≤ ls.length) ∧ (∀ j (h : j < ls.length) (h2 : j < src.length), j < g → (0 ≤ ls[j] ∧ ls[j] < dst.length) ∧ dst.getD ls[j].toNat 0 = src[j])) (fun g => ls.length - g) 0 ⟨Nat.zero_le _, fun j _ _ h => by simp at h⟩ ⟨rfl, trivial⟩ (by simp only [args0, Nat.reduceAdd, del, memN, beqN, Nat.reduceBEq, cond_true, cond_false]; rfl) rfl rfl ?_
    rintro k ⟨hk, hyes⟩
    try dsimp only at hk
    try dsimp only at hyes
    dsimp only [List.set, List.cons_append, List.nil_append]
    refine K_seq ?_
    refine K_seq ?_
    refine K_region ?_
    refine KV (R_move rfl) rfl ?_
    refine KV (R_move rfl) rfl ?_
    refine KV (R_len sl25 rfl) rfl ?_
    refine KV (R_cmp rfl rfl rfl) rfl ?_
    refine K_nil ?_
    refine Q_then ?_
    refine K_if rfl (fun h16 => ?_) (fun h16 => ?_)
    ·
      have hk' : k < ls.length := by omega
      have hk2 : k < src.length := by omega
      obtain ⟨tb, to_, hte, hta⟩ := h1.get hk'
      cases hte
      obtain ⟨sb, so, hse, hsx⟩ := h2.get hk2
      cases hse
      refine K_skip ?_
      refine Q_then ?_
      refine K_seq ?_
      refine K_block ?_
      refine K_seq ?_
      refine K_regionD (fin := false) (R := [0, 1, 2, 3, 4, 5, 6, 7, 8, 9, 10, 11, 12, 13, 14, 15, 16, 17, 18, 19, 20, 21, 22, 23, 24, 25, 26, 27]) (by kernel_rfl) mixed (List.nil_sublist _) ?_
      refine D_val rfl rfl rfl (R_move rfl) ?_
      refine D_val rfl rfl rfl (R_move rfl) ?_
      refine D_val rfl rfl rfl (R_indexN sl25 ty3 rfl rfl (by omega)) ?_
      refine D_val rfl rfl rfl (R_loadH ty3 rfl (hta) rfl (fun _ => rfl) rfl) ?_
      refine D_val rfl rfl rfl (R_cmp rfl rfl rfl) ?_
      refine D_val rfl rfl rfl (R_move rfl) ?_
      refine D_split ?_ ?_
      ·
        intro h24
        refine D_skip rfl rfl ?_
        refine D_skip rfl rfl ?_
        refine D_skip rfl rfl ?_
        refine D_skip rfl rfl ?_
        refine D_skip rfl rfl ?_
        refine D_skip rfl rfl ?_
        refine D_skip rfl rfl ?_
        refine D_val rfl rfl rfl (R_pickT rfl rfl) ?_
        refine D_val rfl rfl rfl (R_move rfl) ?_
        refine D_skip rfl rfl ?_
        refine D_skip rfl rfl ?_
        refine D_skip rfl rfl ?_
        refine D_skip rfl rfl ?_
        refine D_skip rfl rfl ?_
        refine D_skip rfl rfl ?_
        refine D_skip rfl rfl ?_
        refine D_skip rfl rfl ?_
        refine D_skip rfl rfl ?_
        refine D_skip rfl rfl ?_
        refine D_skip rfl rfl ?_
        refine D_skip rfl rfl ?_
        refine D_val rfl rfl rfl (R_pickT rfl rfl) ?_
        refine D_done ?_
        refine Q_then ?_
        refine K_ifT rfl ?_
        refine K_seq ?_
        refine K_region ?_
        refine KV (R_assign rfl) rfl ?_
        refine K_nil ?_
        refine Q_then ?_
        refine K_ret ?_
        refine Q_block_ret ?_
        refine Q_then_ret ?_
        refine Q_then_ret ?_
        refine Q_block_ret ?_
        refine Q_then_ret ?_
        refine results_gen (rs := [.tmp 6]) (vs := [_]) rfl ⟨rfl, trivial⟩ ?_
        refine congrArg Value.bool (Eq.symm ?_)
        first
          | exact mapsM_iff.2 ⟨by omega, fun j h h2 => hyes j h h2 (by omega)⟩
          | (rw [Bool.eq_false_iff]; intro hm; obtain ⟨g1, g2⟩ := mapsM_iff.1 hm; first | omega | (have g3 := g2 k hk' hk2; first | omega | (rw [hgd] at g3; omega)))
      ·
        intro h24
        refine D_val rfl rfl rfl (R_move rfl) ?_
        refine D_val rfl rfl rfl (R_move rfl) ?_
        refine D_val rfl rfl rfl (R_indexN sl25 ty3 rfl rfl (by omega)) ?_
        refine D_val rfl rfl rfl (R_loadH ty3 rfl (hta) rfl (fun _ => rfl) rfl) ?_
        refine D_val rfl rfl rfl (R_move rfl) ?_
        refine D_val rfl rfl rfl (R_len sl25 rfl) ?_
        refine D_val rfl rfl rfl (R_cmp rfl rfl rfl) ?_
        refine D_val rfl rfl rfl (R_pickF rfl rfl) ?_
        refine D_val rfl rfl rfl (R_move rfl) ?_
        refine D_split ?_ ?_
        ·
          intro h33
          refine D_skip rfl rfl ?_
          refine D_skip rfl rfl ?_
          refine D_skip rfl rfl ?_
          refine D_skip rfl rfl ?_
          refine D_skip rfl rfl ?_
          refine D_skip rfl rfl ?_
          refine D_skip rfl rfl ?_
          refine D_skip rfl rfl ?_
          refine D_skip rfl rfl ?_
          refine D_skip rfl rfl ?_
          refine D_skip rfl rfl ?_
          refine D_skip rfl rfl ?_
          refine D_val rfl rfl rfl (R_pickT rfl rfl) ?_
          refine D_done ?_
          refine Q_then ?_
          refine K_ifT rfl ?_
          refine K_seq ?_
          refine K_region ?_
          refine KV (R_assign rfl) rfl ?_
          refine K_nil ?_
          refine Q_then ?_
          refine K_ret ?_
          refine Q_block_ret ?_
          refine Q_then_ret ?_
          refine Q_then_ret ?_
          refine Q_block_ret ?_
          refine Q_then_ret ?_
          refine results_gen (rs := [.tmp 6]) (vs := [_]) rfl ⟨rfl, trivial⟩ ?_
          refine congrArg Value.bool (Eq.symm ?_)
          first
            | exact mapsM_iff.2 ⟨by omega, fun j h h2 => hyes j h h2 (by omega)⟩
            | (rw [Bool.eq_false_iff]; intro hm; obtain ⟨g1, g2⟩ := mapsM_iff.1 hm; first | omega | (have g3 := g2 k hk' hk2; first | omega | (rw [hgd] at g3; omega)))
        ·
          intro h33
          have hx1 : ls[k].toNat < dst.length := by omega
          obtain ⟨db, do_, hde, hdx⟩ := h3.get hx1
          cases hde
          have hgd : dst.getD ls[k].toNat 0 = dst[ls[k].toNat] := by simp [List.getD, hx1]
          refine D_val rfl rfl rfl (R_move rfl) ?_
          refine D_val rfl rfl rfl (R_move rfl) ?_
          refine D_val rfl rfl rfl (R_move rfl) ?_
          refine D_val rfl rfl rfl (R_indexN sl25 ty3 rfl rfl (by omega)) ?_
          refine D_val rfl rfl rfl (R_loadH ty3 rfl (hta) rfl (fun _ => rfl) rfl) ?_
          refine D_val rfl rfl rfl (R_index sl25 ty3 rfl rfl ⟨by omega, by omega⟩) ?_
          refine D_val rfl rfl rfl (R_loadH ty3 rfl (hdx) rfl (fun _ => rfl) rfl) ?_
          refine D_val rfl rfl rfl (R_move rfl) ?_
          refine D_val rfl rfl rfl (R_move rfl) ?_
          refine D_val rfl rfl rfl (R_indexN sl25 ty3 rfl rfl (by omega)) ?_
          refine D_val rfl rfl rfl (R_loadH ty3 rfl (hsx) rfl (fun _ => rfl) rfl) ?_
          refine D_val rfl rfl rfl (R_cmp rfl rfl rfl) ?_
          refine D_val rfl rfl rfl (R_pickF rfl rfl) ?_
          refine D_done ?_
          refine Q_then ?_
          refine K_if rfl (fun h46 => ?_) (fun h46 => ?_)
          ·
            refine K_seq ?_
            refine K_region ?_
            refine KV (R_assign rfl) rfl ?_
            refine K_nil ?_
            refine Q_then ?_
            refine K_ret ?_
            refine Q_block_ret ?_
            refine Q_then_ret ?_
            refine Q_then_ret ?_
            refine Q_block_ret ?_
            refine Q_then_ret ?_
            refine results_gen (rs := [.tmp 6]) (vs := [_]) rfl ⟨rfl, trivial⟩ ?_
            refine congrArg Value.bool (Eq.symm ?_)
            first
              | exact mapsM_iff.2 ⟨by omega, fun j h h2 => hyes j h h2 (by omega)⟩
              | (rw [Bool.eq_false_iff]; intro hm; obtain ⟨g1, g2⟩ := mapsM_iff.1 hm; first | omega | (have g3 := g2 k hk' hk2; first | omega | (rw [hgd] at g3; omega)))
          ·
            have hyes2 : ∀ j (h : j < ls.length) (h2 : j < src.length), j < k + 1 → (0 ≤ ls[j] ∧ ls[j] < dst.length) ∧ dst.getD ls[j].toNat 0 = src[j] := by
              intro j h h2 hj
              by_cases e : j = k
              · subst e; exact ⟨by omega, by rw [hgd]; omega⟩
              · exact hyes j h h2 (by omega)
            refine K_skip ?_
            refine Q_block ?_
            refine Q_then ?_
            refine K_region ?_
            refine KV (R_move rfl) rfl ?_
            refine KV (R_add rfl rfl (by omega)) rfl ?_
            refine KV (R_assign rfl) rfl ?_
            refine K_nil ?_
            refine Q_nextD (k + 1) ⟨hk', hyes2⟩ (by (try dsimp only); omega) ⟨rfl, trivial⟩ rfl rfl rfl
    ·
      have hk' : k = ls.length := by omega
      refine K_exit ?_
      refine Q_then_exit ?_
      refine Q_then_exit ?_
      refine Q_block_exit ?_
      refine Q_then ?_
      refine K_seq ?_
      refine K_region ?_
      refine KV (R_assign rfl) rfl ?_
      refine K_nil ?_
      refine Q_then ?_
      refine K_ret ?_
      refine results_gen (rs := [.tmp 6]) (vs := [_]) rfl ⟨rfl, trivial⟩ ?_
      refine congrArg Value.bool (Eq.symm ?_)
      first
        | exact mapsM_iff.2 ⟨by omega, fun j h h2 => hyes j h h2 (by omega)⟩
        | (rw [Bool.eq_false_iff]; intro hm; obtain ⟨g1, g2⟩ := mapsM_iff.1 hm; first | omega | (have g3 := g2 k hk' hk2; first | omega | (rw [hgd] at g3; omega)))

theorem relab_spec (ls src dst : List Int) (v1 v2 v3 : Value) (H : View) (h1 : SI H v1 ls) (h2 : SI H v2 src) (h3 : SI H v3 dst) (hb1 : ls.length ≤ 1099511627776) : Sat Tryz.prog F73 #[v1, v2, v3] H (fun r _ => r = .bool (mapsM ls src dst)) := by
  obtain ⟨a1, k1, rfl⟩ := h1.shape
  obtain ⟨a2, k2, rfl⟩ := h2.shape
  obtain ⟨a3, k3, rfl⟩ := h3.shape
  refine enterO (n := 41) (args := [.slice a1 ls.length k1, .slice a2 src.length k2, .slice a3 dst.length k3]) Tryz.func34 rfl rfl rfl fun w0 => ?_
  refine K_seq ?_
  refine K_region ?_
  refine KV (R_assign rfl) rfl ?_
  refine K_nil ?_
  refine Q_then ?_
  refine K_seq ?_
  refine K_seq ?_
  refine K_region ?_
  refine KV (R_move rfl) rfl ?_
  refine KV (R_len sl25 rfl) rfl ?_
  refine KV (R_move rfl) rfl ?_
  refine KV (R_len sl47 rfl) rfl ?_
  refine KV (R_cmp rfl rfl rfl) rfl ?_
  refine K_nil ?_
  refine Q_then ?_
  refine K_if rfl (fun h13 => ?_) (fun h13 => ?_)
  ·
    refine K_seq ?_
    refine K_region ?_
    refine KV (R_assign rfl) rfl ?_
    refine K_nil ?_
    refine Q_then ?_
    refine K_ret ?_
    refine Q_then_ret ?_
    refine results_gen (rs := [.tmp 6]) (vs := [_]) rfl ⟨rfl, trivial⟩ ?_
    refine congrArg Value.bool (Eq.symm ?_)
    first
      | exact mapsM_iff.2 ⟨by omega, fun j h h2 => hyes j h h2 (by omega)⟩
      | (rw [Bool.eq_false_iff]; intro hm; obtain ⟨g1, g2⟩ := mapsM_iff.1 hm; first | omega | (have g3 := g2 k hk' hk2; first | omega | (rw [hgd] at g3; omega)))
  ·
    refine K_skip ?_
    refine Q_then ?_
    refine K_seq ?_
    refine K_seq ?_
    refine K_region ?_
    refine KV (R_move rfl) rfl ?_
    refine KV (R_len sl25 rfl) rfl ?_
    refine KV (R_move rfl) rfl ?_
    refine K_nil ?_
    refine Q_then ?_
    refine K_block ?_
    refine K_loopD (G := Nat) [6, 7, 8, 16, 17, 18, 19, 20, 21, 22, 23, 24, 25, 26, 27, 28, 29, 30, 31, 32, 33, 34, 35, 36, 37, 38, 39, 40] (fun g => [(16, .int .i64 (g : Int))]) (fun hl g => hl) (fun g => H) (fun g => (g ≤ ls.length) ∧ (∀ j (h : j < ls.length) (h2 : j < src.length), j < g → (0 ≤ ls[j] ∧ ls[j] < dst.length) ∧ dst.getD ls[j].toNat 0 = src[j])) (fun g => ls.length - g) 0 ⟨Nat.zero_le _, fun j _ _ h => by simp at h⟩ ⟨rfl, trivial⟩ (by simp only [args0, Nat.reduceAdd, del, memN, beqN, Nat.reduceBEq, cond_true, cond_false]; rfl) rfl rfl ?_
    rintro k ⟨hk, hyes⟩
    try dsimp only at hk
    try dsimp only at hyes
    dsimp only [List.set, List.cons_append, List.nil_append]
    refine K_seq ?_
    refine K_region ?_
    refine KV (R_cmp rfl rfl rfl) rfl ?_
    refine K_nil ?_
    refine Q_then ?_
    refine K_seq ?_
    refine K_if rfl (fun h17 => ?_) (fun h17 => ?_)
    ·
      have hk' : k < ls.length := by omega
      have hk2 : k < src.length := by omega
      obtain ⟨tb, to_, hte, hta⟩ := h1.get hk'
      cases hte
      obtain ⟨sb, so, hse, hsx⟩ := h2.get hk2
      cases hse
      refine K_skip ?_
      refine Q_then ?_
      refine K_seq ?_
      refine K_block ?_
      refine K_seq ?_
      refine K_region ?_
      refine KV (R_move rfl) rfl ?_
      refine KV (R_indexN sl25 ty3 rfl rfl (by omega)) rfl ?_
      refine KV (R_loadH ty3 rfl (hta) rfl (fun _ => rfl) rfl) rfl ?_
      refine KV (R_assign rfl) rfl ?_
      refine KV (R_assign rfl) rfl ?_
      refine K_nil ?_
      refine Q_then ?_
      refine K_seq ?_
      refine K_regionD (fin := false) (R := [0, 1, 2, 3, 4, 5, 6, 7, 8, 9, 10, 11, 12, 13, 14, 15, 16, 17, 18]) (by kernel_rfl) mixed (List.nil_sublist _) ?_
      refine D_val rfl rfl rfl (R_move rfl) ?_
      refine D_val rfl rfl rfl (R_cmp rfl rfl rfl) ?_
      refine D_val rfl rfl rfl (R_move rfl) ?_
      refine D_split ?_ ?_
      ·
        intro h23
        refine D_skip rfl rfl ?_
        refine D_skip rfl rfl ?_
        refine D_skip rfl rfl ?_
        refine D_skip rfl rfl ?_
        refine D_val rfl rfl rfl (R_pickT rfl rfl) ?_
        refine D_val rfl rfl rfl (R_move rfl) ?_
        refine D_skip rfl rfl ?_
        refine D_skip rfl rfl ?_
        refine D_skip rfl rfl ?_
        refine D_skip rfl rfl ?_
        refine D_skip rfl rfl ?_
        refine D_skip rfl rfl ?_
        refine D_skip rfl rfl ?_
        refine D_skip rfl rfl ?_
        refine D_skip rfl rfl ?_
        refine D_val rfl rfl rfl (R_pickT rfl rfl) ?_
        refine D_done ?_
        refine Q_then ?_
        refine K_ifT rfl ?_
        refine K_seq ?_
        refine K_region ?_
        refine KV (R_assign rfl) rfl ?_
        refine K_nil ?_
        refine Q_then ?_
        refine K_ret ?_
        refine Q_block_ret ?_
        refine Q_then_ret ?_
        refine Q_then_ret ?_
        refine Q_block_ret ?_
        refine Q_then_ret ?_
        refine results_gen (rs := [.tmp 6]) (vs := [_]) rfl ⟨rfl, trivial⟩ ?_
        refine congrArg Value.bool (Eq.symm ?_)
        first
          | exact mapsM_iff.2 ⟨by omega, fun j h h2 => hyes j h h2 (by omega)⟩
          | (rw [Bool.eq_false_iff]; intro hm; obtain ⟨g1, g2⟩ := mapsM_iff.1 hm; first | omega | (have g3 := g2 k hk' hk2; first | omega | (rw [hgd] at g3; omega)))
      ·
        intro h23
        refine D_val rfl rfl rfl (R_move rfl) ?_
        refine D_val rfl rfl rfl (R_move rfl) ?_
        refine D_val rfl rfl rfl (R_len sl47 rfl) ?_
        refine D_val rfl rfl rfl (R_cmp rfl rfl rfl) ?_
        refine D_val rfl rfl rfl (R_pickF rfl rfl) ?_
        refine D_val rfl rfl rfl (R_move rfl) ?_
        refine D_split ?_ ?_
        ·
          intro h29
          refine D_skip rfl rfl ?_
          refine D_skip rfl rfl ?_
          refine D_skip rfl rfl ?_
          refine D_skip rfl rfl ?_
          refine D_skip rfl rfl ?_
          refine D_skip rfl rfl ?_
          refine D_skip rfl rfl ?_
          refine D_skip rfl rfl ?_
          refine D_skip rfl rfl ?_
          refine D_val rfl rfl rfl (R_pickT rfl rfl) ?_
          refine D_done ?_
          refine Q_then ?_
          refine K_ifT rfl ?_
          refine K_seq ?_
          refine K_region ?_
          refine KV (R_assign rfl) rfl ?_
          refine K_nil ?_
          refine Q_then ?_
          refine K_ret ?_
          refine Q_block_ret ?_
          refine Q_then_ret ?_
          refine Q_then_ret ?_
          refine Q_block_ret ?_
          refine Q_then_ret ?_
          refine results_gen (rs := [.tmp 6]) (vs := [_]) rfl ⟨rfl, trivial⟩ ?_
          refine congrArg Value.bool (Eq.symm ?_)
          first
            | exact mapsM_iff.2 ⟨by omega, fun j h h2 => hyes j h h2 (by omega)⟩
            | (rw [Bool.eq_false_iff]; intro hm; obtain ⟨g1, g2⟩ := mapsM_iff.1 hm; first | omega | (have g3 := g2 k hk' hk2; first | omega | (rw [hgd] at g3; omega)))
        ·
          intro h29
          have hx1 : ls[k].toNat < dst.length := by omega
          obtain ⟨db, do_, hde, hdx⟩ := h3.get hx1
          cases hde
          have hgd : dst.getD ls[k].toNat 0 = dst[ls[k].toNat] := by simp [List.getD, hx1]
          refine D_val rfl rfl rfl (R_move rfl) ?_
          refine D_val rfl rfl rfl (R_move rfl) ?_
          refine D_val rfl rfl rfl (R_index sl47 ty3 rfl rfl ⟨by omega, by omega⟩) ?_
          refine D_val rfl rfl rfl (R_loadH ty3 rfl (hdx) rfl (fun _ => rfl) rfl) ?_
          refine D_val rfl rfl rfl (R_move rfl) ?_
          refine D_val rfl rfl rfl (R_move rfl) ?_
          refine D_val rfl rfl rfl (R_indexN sl47 ty3 rfl rfl (by omega)) ?_
          refine D_val rfl rfl rfl (R_loadH ty3 rfl (hsx) rfl (fun _ => rfl) rfl) ?_
          refine D_val rfl rfl rfl (R_cmp rfl rfl rfl) ?_
          refine D_val rfl rfl rfl (R_pickF rfl rfl) ?_
          refine D_done ?_
          refine Q_then ?_
          refine K_if rfl (fun h39 => ?_) (fun h39 => ?_)
          ·
            refine K_seq ?_
            refine K_region ?_
            refine KV (R_assign rfl) rfl ?_
            refine K_nil ?_
            refine Q_then ?_
            refine K_ret ?_
            refine Q_block_ret ?_
            refine Q_then_ret ?_
            refine Q_then_ret ?_
            refine Q_block_ret ?_
            refine Q_then_ret ?_
            refine results_gen (rs := [.tmp 6]) (vs := [_]) rfl ⟨rfl, trivial⟩ ?_
            refine congrArg Value.bool (Eq.symm ?_)
            first
              | exact mapsM_iff.2 ⟨by omega, fun j h h2 => hyes j h h2 (by omega)⟩
              | (rw [Bool.eq_false_iff]; intro hm; obtain ⟨g1, g2⟩ := mapsM_iff.1 hm; first | omega | (have g3 := g2 k hk' hk2; first | omega | (rw [hgd] at g3; omega)))
          ·
            have hyes2 : ∀ j (h : j < ls.length) (h2 : j < src.length), j < k + 1 → (0 ≤ ls[j] ∧ ls[j] < dst.length) ∧ dst.getD ls[j].toNat 0 = src[j] := by
              intro j h h2 hj
              by_cases e : j = k
              · subst e; exact ⟨by omega, by rw [hgd]; omega⟩
              · exact hyes j h h2 (by omega)
            refine K_skip ?_
            refine Q_block ?_
            refine Q_then ?_
            refine K_region ?_
            refine KV (R_add rfl rfl (by omega)) rfl ?_
            refine KV (R_move rfl) rfl ?_
            refine K_nil ?_
            refine Q_nextD (k + 1) ⟨hk', hyes2⟩ (by (try dsimp only); omega) ⟨rfl, trivial⟩ rfl rfl rfl
    ·
      have hk' : k = ls.length := by omega
      refine K_exit ?_
      refine Q_then_exit ?_
      refine Q_then_exit ?_
      refine Q_block_exit ?_
      refine Q_then ?_
      refine K_seq ?_
      refine K_region ?_
      refine KV (R_assign rfl) rfl ?_
      refine K_nil ?_
      refine Q_then ?_
      refine K_ret ?_
      refine results_gen (rs := [.tmp 6]) (vs := [_]) rfl ⟨rfl, trivial⟩ ?_
      refine congrArg Value.bool (Eq.symm ?_)
      first
        | exact mapsM_iff.2 ⟨by omega, fun j h h2 => hyes j h h2 (by omega)⟩
        | (rw [Bool.eq_false_iff]; intro hm; obtain ⟨g1, g2⟩ := mapsM_iff.1 hm; first | omega | (have g3 := g2 k hk' hk2; first | omega | (rw [hgd] at g3; omega)))

theorem at_spec (d : Dt) (hok : DtOk d) (s : Int) (xs : List Int) (v1 v2 v3 w : Value) (H : View) (hd : RepDt H d v1 v2 v3) (hw : SI H w xs) (hs : 0 ≤ s ∧ s < d.ranks.length) (hl : (xs.length : Int) = d.ranks.getD s.toNat 0) (hx : ∀ x ∈ xs, 0 ≤ x ∧ x < (d.acc.length : Int)) :
    Sat Tryz.prog F91 #[.agg #[v1, v2, v3], .int .i64 s, w] H (fun r _ => r = .int .i64 (atM d s xs)) := by
  obtain ⟨wa, wcp, rfl⟩ := hw.shape
  obtain ⟨g1, g2, g3, g4⟩ := hok.at_ok hs hl hx
  have hn := hok.n
  have hrkb := (ranksErr_ok hok.rk).2 s.toNat (by omega)
  have hxl : xs.length ≤ 2 := by
    have : d.ranks.getD s.toNat 0 = d.ranks[s.toNat] := by simp [List.getD, show s.toNat < d.ranks.length by omega]
    omega
  obtain ⟨ua1, uc1x, rfl⟩ := hd.r.shape
  obtain ⟨ua2, uc2x, rfl⟩ := hd.a.shape
  obtain ⟨ua3, uc3x, rfl⟩ := hd.t.shape
  refine enterO (n := 32) (args := [.agg #[.slice ua1 d.ranks.length uc1x, .slice ua2 d.acc.length uc2x, .slice ua3 d.to.length uc3x], .int .i64 s, .slice wa xs.length wcp]) Tryz.func91 rfl rfl rfl fun w0 => ?_
  refine K_seq ?_
  refine K_region ?_
  refine KA (A_box rfl) rfl fun b3 => ?_
  refine KV (R_assign rfl) rfl ?_
  refine K_nil ?_
  refine Q_then ?_
  refine K_seq ?_
  refine K_region ?_
  refine KV (R_assign rfl) rfl ?_
  refine K_nil ?_
  refine Q_then ?_
  refine K_seq ?_
  refine K_seq ?_
  refine K_region ?_
  refine KV (R_move rfl) rfl ?_
  refine KV (R_len sl25 rfl) rfl ?_
  refine KV (R_move rfl) rfl ?_
  refine K_nil ?_
  refine Q_then ?_
  refine K_block ?_
  refine K_loopD (G := Nat) [7, 9, 12, 13, 14, 15, 16, 17, 18, 19, 20, 21, 22, 23] (fun g => [(12, .int .i64 (g : Int)), (7, .int .i64 (placeM d.acc.length (xs.take g)))]) (fun hl g => hl) (fun g => H) (fun g => (g ≤ xs.length)) (fun g => xs.length - g) 0 (Nat.zero_le _) ⟨rfl, rfl, trivial⟩ (by simp only [args0, Nat.reduceAdd, del, memN, beqN, Nat.reduceBEq, cond_true, cond_false]; rfl) rfl rfl ?_
  rintro k hk
  try dsimp only at hk
  dsimp only [List.set, List.cons_append, List.nil_append]
  refine K_seq ?_
  refine K_region ?_
  refine KV (R_cmp rfl rfl rfl) rfl ?_
  refine K_nil ?_
  refine Q_then ?_
  refine K_seq ?_
  refine K_if rfl (fun h13 => ?_) (fun h13 => ?_)
  ·
    have hk' : k < xs.length := by omega
    obtain ⟨tb, to_, hte, hta⟩ := hw.get hk'
    cases hte
    have hpl := placeM_lt hx k hk
    have hpk : d.acc.length ^ k ≤ 262144 := pow_le2 hn.2 (by omega)
    have hxk := hx _ (List.getElem_mem hk')
    have hm0 : 0 ≤ placeM d.acc.length (xs.take k) * (d.acc.length : Int) := Int.mul_nonneg hpl.1 (by omega)
    have hm1 : placeM d.acc.length (xs.take k) * (d.acc.length : Int) ≤ 262144 * (d.acc.length : Int) := Int.mul_le_mul_of_nonneg_right (by omega) (by omega)
    refine K_skip ?_
    refine Q_then ?_
    refine K_seq ?_
    refine K_block ?_
    refine K_seq ?_
    refine K_region ?_
    refine KV (R_indexN sl25 ty3 rfl rfl (by omega)) rfl ?_
    refine KV (R_loadH ty3 rfl (hta) rfl (fun _ => rfl) rfl) rfl ?_
    refine KV (R_assign rfl) rfl ?_
    refine K_nil ?_
    refine Q_then ?_
    refine K_region ?_
    refine KV (R_move rfl) rfl ?_
    refine KV (R_fieldAddr 1 fd54_1 rfl) rfl ?_
    refine KV (R_loadO ty52 0 rfl rfl rfl rfl (fun _ => rfl) rfl) rfl ?_
    refine KV (R_len sl52 rfl) rfl ?_
    refine KV (R_mul rfl rfl (by omega)) rfl ?_
    refine KV (R_move rfl) rfl ?_
    refine KV (R_add rfl rfl (by omega)) rfl ?_
    refine KV (R_assign rfl) rfl ?_
    refine K_nil ?_
    refine Q_block ?_
    refine Q_then ?_
    refine K_region ?_
    refine KV (R_add rfl rfl (by omega)) rfl ?_
    refine KV (R_move rfl) rfl ?_
    refine K_nil ?_
    refine Q_nextD (k + 1) hk' (by (try dsimp only); omega) ⟨rfl, congrArg (fun z => some (Value.int .i64 z)) (placeM_take hk').symm, trivial⟩ rfl rfl rfl
  ·
    have hk' : k = xs.length := by omega
    subst hk'
    rw [List.take_length]
    obtain ⟨db, do_, ea, ecp, hde, htx, hes⟩ := hd.t.get g1
    cases hde
    have hgs : d.to.getD s.toNat [] = d.to[s.toNat] := by simp [List.getD, g1]
    rw [hgs] at g2
    obtain ⟨eb, eo, hee, hty⟩ := hes.get g2.2
    cases hee
    have hg2 : atM d s xs = d.to[s.toNat][(placeM d.acc.length xs).toNat] := by
      unfold atM
      rw [hgs]
      simp [List.getD, g2.2]
    refine K_exit ?_
    refine Q_then_exit ?_
    refine Q_then_exit ?_
    refine Q_block_exit ?_
    refine Q_then ?_
    refine K_seq ?_
    refine K_region ?_
    refine KV (R_fieldAddr 2 fd54_2 rfl) rfl ?_
    refine KV (R_loadO ty44 0 rfl rfl rfl rfl (fun _ => rfl) rfl) rfl ?_
    refine KV (R_move rfl) rfl ?_
    refine KV (R_index sl44 ty25 rfl rfl ⟨by omega, by omega⟩) rfl ?_
    refine KV (R_loadH ty25 rfl (htx) rfl (fun _ => rfl) rfl) rfl ?_
    refine KV (R_move rfl) rfl ?_
    refine KV (R_index sl25 ty3 rfl rfl ⟨g2.1, by omega⟩) rfl ?_
    refine KV (R_loadH ty3 rfl (hty) rfl (fun _ => rfl) rfl) rfl ?_
    refine KV (R_assign rfl) rfl ?_
    refine K_nil ?_
    refine Q_then ?_
    refine K_ret ?_
    refine results_gen (rs := [.tmp 6]) (vs := [_]) rfl ⟨rfl, trivial⟩ ?_
    rw [hg2]
    rfl

theorem run_spec (d : Dt) (hok : DtOk d) (v1 v2 v3 : Value) : ∀ m t H cs, t.size ≤ m → m ≤ 1099511627776 → RepT H t cs → RepDt H d v1 v2 v3 → Tr.nodesErr d.ranks t = 0 → Sat Tryz.prog F99 #[.agg #[v1, v2, v3], .agg cs.toArray] H (fun r _ => r = .int .i64 (Tr.run d t)) := by
  intro m
  induction m with
  | zero => intro t H cs h; have := t.size_pos; omega
  | succ m ih =>
  intro t H cs hm hb hr hd hne
  have hnt := hne
  cases hr with | mk s ts a cap b off cs' hs ha hA hrec =>
  have hsz : (Tr.node s ts).size = 1 + Tr.sizes ts := rfl
  have hln := Tr.length_le_sizes ts
  obtain ⟨hn1, hn2, hn3⟩ := Tr.nodesErr_zero.1 hne
  have hro : ∀ t ∈ ts, i64ok (Tr.run d t) := by
    intro t ht
    have := Tr.run_ok hok _ t (Nat.le_refl _) (hn3 t ht)
    have := hok.n
    simp only [i64ok]; omega
  obtain ⟨ua1, uc1x, rfl⟩ := hd.r.shape
  obtain ⟨ua2, uc2x, rfl⟩ := hd.a.shape
  obtain ⟨ua3, uc3x, rfl⟩ := hd.t.shape
  refine enterO (n := 27) (args := [.agg #[.slice ua1 d.ranks.length uc1x, .slice ua2 d.acc.length uc2x, .slice ua3 d.to.length uc3x], .agg #[.int .i64 s, .slice a ts.length cap]]) Tryz.func92 rfl rfl rfl fun w0 => ?_
  refine K_seq ?_
  refine K_region ?_
  refine KA (A_box rfl) rfl fun b2 => ?_
  refine KA (A_box rfl) rfl fun b3 => ?_
  refine KV (R_assign rfl) rfl ?_
  refine K_nil ?_
  refine Q_then ?_
  refine K_seq ?_
  refine K_region ?_
  refine KV (R_assign rfl) rfl ?_
  refine K_nil ?_
  refine Q_then ?_
  refine K_seq ?_
  refine K_seq ?_
  refine K_region ?_
  refine KV (R_fieldAddr 1 fd30_1 rfl) rfl ?_
  refine KV (R_loadO ty28 0 rfl rfl rfl rfl (fun _ => rfl) rfl) rfl ?_
  refine KV (R_len sl28 rfl) rfl ?_
  refine KV (R_move rfl) rfl ?_
  refine K_nil ?_
  refine Q_then ?_
  refine K_block ?_
  refine K_nilrow T3 1 ?_
  refine K_loopD (G := Nat × View × Value) [5, 7, 11, 12, 13, 14, 15, 16, 17, 18, 19, 20, 21] (fun g => [(11, .int .i64 (g.1 : Int)), (5, g.2.2)]) (fun hl g => (hl.set 0 (row g.2.2 T3 1 g.1 (ints ((ts.take g.1).map (Tr.run d)))))) (fun g => g.2.1) (fun g => (g.1 ≤ ts.length) ∧ (VLe H g.2.1) ∧ (∃ ad cp, g.2.2 = .slice ad g.1 cp)) (fun g => ts.length - g.1) (0, H, nilS) ⟨Nat.zero_le _, VLe.refl _, none, 0, rfl⟩ ⟨rfl, rfl, trivial⟩ (by simp only [args0, Nat.reduceAdd, del, memN, beqN, Nat.reduceBEq, cond_true, cond_false]; rfl) rfl rfl ?_
  rintro ⟨k, V, w⟩ ⟨hk, hV, hw⟩
  dsimp only at hk hV hw
  dsimp only [List.set, List.cons_append, List.nil_append]
  obtain ⟨wa, wcp, rfl⟩ := hw
  refine K_seq ?_
  refine K_region ?_
  refine KV (R_cmp rfl rfl rfl) rfl ?_
  refine K_nil ?_
  refine Q_then ?_
  refine K_seq ?_
  refine K_if rfl (fun h12 => ?_) (fun h12 => ?_)
  ·
    have hlt' : k < ts.length := by omega
    have htk := Tr.sizes_take ts k hlt'
    have hle' := Tr.sizes_take_le ts (k + 1)
    have ha' := ha (by intro e; subst e; simp at hlt')
    subst ha'
    obtain ⟨y0, y1, y2, y3, hcs⟩ := (hrec k hlt').shape
    have hreck := (hrec k hlt').mono hV
    rw [hcs] at hreck
    refine K_skip ?_
    refine Q_then ?_
    refine K_seq ?_
    refine K_block ?_
    refine K_seq ?_
    refine K_region ?_
    refine KV (R_indexN sl28 ty30 rfl rfl (by omega)) rfl ?_
    refine KV (R_loadH ty30 rfl (hcs ▸ (hA k hlt').2.mono hV) rfl (fun e => by cases e) rfl) rfl ?_
    refine KA (A_alloc z30) rfl fun b7 => ?_
    refine K_store ty30 0 rfl rfl rfl rfl rfl rfl ?_
    refine K_nil ?_
    refine Q_then ?_
    refine K_region ?_
    refine KV (R_move rfl) rfl ?_
    refine KV (R_loadO ty54 3 rfl rfl rfl rfl (fun e => by cases e) rfl) rfl ?_
    refine KV (R_loadO ty30 0 rfl rfl rfl rfl (fun e => by cases e) rfl) rfl ?_
    refine K_call c99 rfl rfl (ih ts[k] V _ (by omega) (by omega) hreck (hd.mono hV) (hn3 _ (List.getElem_mem hlt'))) ?_
    rintro _ V1 hle1 rfl
    refine KA (A_buildSlice (vs := [.int .i64 (Tr.run d ts[k])]) sl25 ty3 z3 rfl rfl (by simp [Value.cells]) (by simp) rfl (by decide)) rfl fun b19 => ?_
    refine K_append1 1 ap25 rfl rfl rfl rfl rfl rfl ⟨by omega, by omega⟩ rfl fun a20 k20 hn20 => ?_
    refine KV (R_assign rfl) rfl ?_
    refine K_nil ?_
    refine Q_block ?_
    refine Q_then ?_
    refine K_region ?_
    refine KV (R_add rfl rfl (by omega)) rfl ?_
    refine KV (R_move rfl) rfl ?_
    refine K_nil ?_
    refine KQ_sel [0, 1, 1] rfl ?_
    refine Q_nextD (k + 1, V1, .slice a20 (k + 1) k20) ⟨hlt', hV.trans hle1, _, _, rfl⟩ (by (try dsimp only); omega) ⟨rfl, rfl, trivial⟩ rfl (by dsimp only; rw [take_ints_snoc hlt']; rfl) rfl
  ·
    have hk' : k = ts.length := by omega
    subst hk'
    rw [List.take_length]
    refine K_exit ?_
    refine Q_then_exit ?_
    refine Q_then_exit ?_
    refine Q_block_exit ?_
    refine Q_then ?_
    refine K_seq ?_
    refine KC_pubrow rfl fun W hW hrow => ?_
    refine K_region ?_
    refine KV (R_loadO ty54 1 rfl rfl rfl rfl (fun e => by cases e) rfl) rfl ?_
    refine KV (R_fieldAddr 0 fd30_0 rfl) rfl ?_
    refine KV (R_loadO ty3 0 rfl rfl rfl rfl (fun _ => rfl) rfl) rfl ?_
    refine KV (R_move rfl) rfl ?_
    refine K_call c91 rfl rfl (at_spec d hok s (ts.map (Tr.run d)) _ _ _ _ W (hd.mono (hV.trans hW)) ⟨by rw [List.length_map]; exact hrow.sl, by intro x hx; obtain ⟨t, ht, rfl⟩ := List.mem_map.1 hx; exact hro t ht⟩ hn1 (by rw [List.length_map]; exact hn2) (by intro x hx; obtain ⟨t, ht, rfl⟩ := List.mem_map.1 hx; exact Tr.run_ok hok _ t (Nat.le_refl _) (hn3 t ht))) ?_
    rintro _ V1 hle1 rfl
    refine KV (R_assign rfl) rfl ?_
    refine K_nil ?_
    refine Q_then ?_
    refine K_ret ?_
    refine results_gen (rs := [.tmp 4]) (vs := [_]) rfl ⟨rfl, trivial⟩ ?_
    rw [Tr.run, Tr.runs_map]
    rfl

theorem drun_spec (d : Dt) (v1 v2 v3 : Value) (t : Tr) (H : View) (cs : List Value) (hb : d.ranks.length ≤ 1048576 ∧ d.acc.length ≤ 1048576 ∧ d.to.length ≤ 1048576 ∧ ∀ x ∈ d.to, x.length ≤ 1048576) (hbt : t.size ≤ 1073741824) (hd : RepDt H d v1 v2 v3) (hr : RepT H t cs) : Sat Tryz.prog F76 #[.agg #[v1, v2, v3], .agg cs.toArray] H
    (fun r _ => ∃ s e, r = .tuple #[.int .i64 s, .int .i64 e] ∧ ((dtErr d ≠ 0 ∧ e = dtErr d) ∨ (dtErr d = 0 ∧ e = validErr d.ranks t ∧ (e = 0 → s = Tr.run d t)))) := by
  obtain ⟨x0, x1, x2, x3, rfl⟩ := hr.shape
  obtain ⟨ua1, uc1x, rfl⟩ := hd.r.shape
  obtain ⟨ua2, uc2x, rfl⟩ := hd.a.shape
  obtain ⟨ua3, uc3x, rfl⟩ := hd.t.shape
  refine enterO (n := 23) (args := [.agg #[.slice ua1 d.ranks.length uc1x, .slice ua2 d.acc.length uc2x, .slice ua3 d.to.length uc3x], .agg #[.int .i64 x0, .slice x1 x2 x3]]) Tryz.func56 rfl rfl rfl fun w0 => ?_
  refine K_seq ?_
  refine K_region ?_
  refine KA (A_box rfl) rfl fun b2 => ?_
  refine KA (A_box rfl) rfl fun b3 => ?_
  refine KV (R_assign rfl) rfl ?_
  refine KV (R_assign rfl) rfl ?_
  refine K_nil ?_
  refine Q_then ?_
  refine K_seq ?_
  refine K_seq ?_
  refine K_region ?_
  refine KV (R_loadO ty54 1 rfl rfl rfl rfl (fun e => by cases e) rfl) rfl ?_
  refine K_call c63 rfl rfl (dcheck_spec d _ _ _ H hd hb) ?_
  rintro _ V1 hv1 rfl
  refine KV (R_assign rfl) rfl ?_
  refine K_nil ?_
  refine Q_then ?_
  refine K_seq ?_
  refine K_region ?_
  refine KV (R_move rfl) rfl ?_
  refine KV (R_cmp rfl rfl rfl) rfl ?_
  refine K_nil ?_
  refine Q_then ?_
  refine K_if rfl (fun h11 => ?_) (fun h11 => ?_)
  ·
    refine K_seq ?_
    refine K_region ?_
    refine KV (R_move rfl) rfl ?_
    refine KV (R_assign rfl) rfl ?_
    refine KV (R_assign rfl) rfl ?_
    refine K_nil ?_
    refine Q_then ?_
    refine K_ret ?_
    refine Q_then_ret ?_
    refine results_gen (rs := [.tmp 4, .tmp 5]) (vs := [_, _]) rfl ⟨rfl, ⟨rfl, trivial⟩⟩ ?_
    exact ⟨_, _, rfl, .inl ⟨h11, rfl⟩⟩
  ·
    have hde : dtErr d = 0 := Decidable.not_not.1 h11
    refine K_skip ?_
    refine Q_then ?_
    refine K_seq ?_
    refine K_seq ?_
    refine K_region ?_
    refine KV (R_fieldAddr 0 fd54_0 rfl) rfl ?_
    refine KV (R_loadO ty47 1 rfl rfl rfl rfl (fun _ => rfl) rfl) rfl ?_
    refine KV (R_loadO ty30 0 rfl rfl rfl rfl (fun e => by cases e) rfl) rfl ?_
    refine K_call c98 rfl rfl (pvalid_spec d.ranks _ t V1 _ hb.1 hbt (hr.mono hv1) ((hd.mono hv1).r)) ?_
    rintro _ V2 hv2 rfl
    refine KV (R_assign rfl) rfl ?_
    refine K_nil ?_
    refine Q_then ?_
    refine K_seq ?_
    refine K_region ?_
    refine KV (R_move rfl) rfl ?_
    refine KV (R_cmp rfl rfl rfl) rfl ?_
    refine K_nil ?_
    refine Q_then ?_
    refine K_if rfl (fun h18 => ?_) (fun h18 => ?_)
    ·
      refine K_seq ?_
      refine K_region ?_
      refine KV (R_move rfl) rfl ?_
      refine KV (R_assign rfl) rfl ?_
      refine KV (R_assign rfl) rfl ?_
      refine K_nil ?_
      refine Q_then ?_
      refine K_ret ?_
      refine Q_then_ret ?_
      refine results_gen (rs := [.tmp 4, .tmp 5]) (vs := [_, _]) rfl ⟨rfl, ⟨rfl, trivial⟩⟩ ?_
      exact ⟨_, _, rfl, .inr ⟨hde, rfl, fun h => absurd h h18⟩⟩
    ·
      have hve : validErr d.ranks t = 0 := Decidable.not_not.1 h18
      have hne : Tr.nodesErr d.ranks t = 0 := by
        have h := hve
        unfold validErr at h
        split at h
        · rename_i g; exact absurd h g
        · split at h
          · cases h
          · split at h
            · cases h
            · exact h
      refine K_skip ?_
      refine Q_then ?_
      refine K_seq ?_
      refine K_region ?_
      refine KV (R_loadO ty54 1 rfl rfl rfl rfl (fun e => by cases e) rfl) rfl ?_
      refine KV (R_loadO ty30 0 rfl rfl rfl rfl (fun e => by cases e) rfl) rfl ?_
      refine K_call c99 rfl rfl (run_spec d (DtOk.of hde) _ _ _ t.size t V2 _ (Nat.le_refl _) (by omega) (hr.mono (hv1.trans hv2)) (hd.mono (hv1.trans hv2)) hne) ?_
      rintro _ V3 hv3 rfl
      refine KV (R_assign rfl) rfl ?_
      refine KV (R_assign rfl) rfl ?_
      refine K_nil ?_
      refine Q_then ?_
      refine K_ret ?_
      refine results_gen (rs := [.tmp 4, .tmp 5]) (vs := [_, _]) rfl ⟨rfl, ⟨rfl, trivial⟩⟩ ?_
      exact ⟨_, _, rfl, .inr ⟨hde, hve.symm, fun _ => rfl⟩⟩

theorem daccepts_spec (d : Dt) (v1 v2 v3 : Value) (t : Tr) (H : View) (cs : List Value) (hb : d.ranks.length ≤ 1048576 ∧ d.acc.length ≤ 1048576 ∧ d.to.length ≤ 1048576 ∧ ∀ x ∈ d.to, x.length ≤ 1048576) (hbt : t.size ≤ 1073741824) (hd : RepDt H d v1 v2 v3) (hr : RepT H t cs) : Sat Tryz.prog F40 #[.agg #[v1, v2, v3], .agg cs.toArray] H (fun r _ => r = .bool (acceptsM d t)) := by
  obtain ⟨x0, x1, x2, x3, rfl⟩ := hr.shape
  obtain ⟨ua1, uc1x, rfl⟩ := hd.r.shape
  obtain ⟨ua2, uc2x, rfl⟩ := hd.a.shape
  obtain ⟨ua3, uc3x, rfl⟩ := hd.t.shape
  refine enterO (n := 22) (args := [.agg #[.slice ua1 d.ranks.length uc1x, .slice ua2 d.acc.length uc2x, .slice ua3 d.to.length uc3x], .agg #[.int .i64 x0, .slice x1 x2 x3]]) Tryz.func26 rfl rfl rfl fun w0 => ?_
  refine K_seq ?_
  refine K_region ?_
  refine KA (A_box rfl) rfl fun b2 => ?_
  refine KA (A_box rfl) rfl fun b3 => ?_
  refine KV (R_assign rfl) rfl ?_
  refine K_nil ?_
  refine Q_then ?_
  refine K_seq ?_
  refine K_region ?_
  refine KV (R_loadO ty54 1 rfl rfl rfl rfl (fun e => by cases e) rfl) rfl ?_
  refine KV (R_loadO ty30 0 rfl rfl rfl rfl (fun e => by cases e) rfl) rfl ?_
  refine K_call c76 rfl rfl (drun_spec d _ _ _ t H _ hb hbt hd hr) ?_
  rintro _ V1 hv1 ⟨s, e, rfl, hse⟩
  refine KV (R_move rfl) rfl ?_
  refine KV (R_extract rfl rfl) rfl ?_
  refine KV (R_extract rfl rfl) rfl ?_
  refine KV (R_assign rfl) rfl ?_
  refine KV (R_assign rfl) rfl ?_
  refine K_nil ?_
  refine Q_then ?_
  refine K_seq ?_
  refine K_region ?_
  refine KV (R_move rfl) rfl ?_
  refine KV (R_cmp rfl rfl rfl) rfl ?_
  refine KV (R_move rfl) rfl ?_
  refine K_split ?_ ?_
  ·
    intro h15
    have hde : dtErr d = 0 := by
      rcases hse with ⟨g1, g2⟩ | ⟨g1, _⟩
      · omega
      · exact g1
    obtain ⟨hve, hst⟩ : validErr d.ranks t = 0 ∧ s = Tr.run d t := by
      rcases hse with ⟨g1, g2⟩ | ⟨_, g2, g3⟩
      · omega
      · exact ⟨by omega, g3 h15⟩
    subst hst
    have hne : Tr.nodesErr d.ranks t = 0 := by
      have h := hve
      unfold validErr at h
      split at h
      · rename_i g; exact absurd h g
      · split at h
        · cases h
        · split at h
          · cases h
          · exact h
    have hrn := Tr.run_ok (DtOk.of hde) _ t (Nat.le_refl _) hne
    have hrl : (Tr.run d t).toNat < d.acc.length := by omega
    obtain ⟨tb, to_, hte, hta⟩ := (SB.mono hd.a hv1).get hrl
    cases hte
    refine K_gyes rfl rfl ?_
    refine KV (R_fieldAddr 1 fd54_1 rfl) rfl ?_
    refine K_gyes rfl rfl ?_
    refine KV (R_loadO ty52 1 rfl rfl rfl rfl (fun _ => rfl) rfl) rfl ?_
    refine K_gyes rfl rfl ?_
    refine KV (R_move rfl) rfl ?_
    refine K_gyes rfl rfl ?_
    refine KV (R_index sl52 ty4 rfl rfl ⟨hrn.1, hrn.2⟩) rfl ?_
    refine K_gyes rfl rfl ?_
    refine KV (R_loadH ty4 rfl (hta) rfl (fun _ => rfl) rfl) rfl ?_
    refine KV (R_pickT rfl rfl) rfl ?_
    refine KV (R_assign rfl) rfl ?_
    refine K_nil ?_
    refine Q_then ?_
    refine K_ret ?_
    refine results_gen (rs := [.tmp 4]) (vs := [_]) rfl ⟨rfl, trivial⟩ ?_
    refine congrArg Value.bool ?_
    unfold acceptsM
    rw [if_neg (by rw [hde]; simp), if_neg (by rw [hve]; simp)]
    simp [List.getD, hrl]
  ·
    intro h15
    refine K_gno rfl rfl rfl rfl ?_
    refine K_gno rfl rfl rfl rfl ?_
    refine K_gno rfl rfl rfl rfl ?_
    refine K_gno rfl rfl rfl rfl ?_
    refine K_gno rfl rfl rfl rfl ?_
    refine KV (R_pickF rfl rfl) rfl ?_
    refine KV (R_assign rfl) rfl ?_
    refine K_nil ?_
    refine Q_then ?_
    refine K_ret ?_
    refine results_gen (rs := [.tmp 4]) (vs := [_]) rfl ⟨rfl, trivial⟩ ?_
    refine congrArg Value.bool (Eq.symm ?_)
    unfold acceptsM
    rcases hse with ⟨g1, g2⟩ | ⟨g1, g2, _⟩
    · rw [if_pos g1]
    · rw [if_neg (by rw [g1]; simp), if_pos (by omega)]
end Go.Proofs.X

namespace Go.Proofs.X
open Go Pal Go.Proofs
attribute [local irreducible] Pal.KO Pal.KC Pal.KQ Pal.KD
theorem c65 : callable Tryz.prog F65 = true := by kernel_rfl
theorem clone25o_spec (p : HL) (xs : List Int) (v : Value) (H : View) (hrd : Rd H p v xs.length (ints xs)) (hl : xs.length ≤ 1099511627776) : SatO Tryz.prog F65 #[v] H p (fun w _ q => q = row w T3 1 xs.length (ints xs) :: p) := by
  obtain ⟨a, cp, rfl, hsh⟩ := hrd.sh
  refine enterO (n := 8) (args := [.slice a xs.length cp]) Tryz.func88 rfl rfl rfl fun w0 => ?_
  refine K_seq ?_
  refine K_region ?_
  refine KV (R_assign rfl) rfl ?_
  refine K_nil ?_
  refine Q_then ?_
  refine K_seq ?_
  refine K_seq ?_
  refine K_region ?_
  refine KV (R_move rfl) rfl ?_
  refine KV (R_sliceNil sl25 rfl rfl) rfl ?_
  refine K_nil ?_
  refine Q_then ?_
  cases a with
  | none =>
    have hx0 : xs = [] := by
      rcases hsh with h3 | ⟨b, off, h3⟩
      · exact List.eq_nil_of_length_eq_zero h3
      · cases h3
    subst hx0
    refine K_ifT rfl ?_
    refine K_seq ?_
    refine K_region ?_
    refine KV (R_assign rfl) rfl ?_
    refine K_nil ?_
    refine Q_then ?_
    refine K_ret ?_
    refine Q_then_ret ?_
    refine KQ_nilrow T3 1 ?_
    refine results_gen (rs := [.tmp 2]) (vs := [_]) rfl ⟨rfl, trivial⟩ ?_
    rfl
  | some aa =>
    refine K_ifF rfl ?_
    refine K_skip ?_
    refine Q_then ?_
    refine K_seq ?_
    refine K_region ?_
    refine KA (A_buildSlice (vs := []) sl25 ty3 z3 rfl rfl (by simp) (by simp) rfl (by decide)) rfl fun b5 => ?_
    refine KV (R_move rfl) rfl ?_
    refine K_appendRd0 (p := p) (r := []) ap25 sl25 rfl rfl (by rw [List.append_nil]; exact List.Perm.refl _) hrd (by simp [ints]) (ints_one _) ⟨by omega, by omega⟩ rfl fun a7 k7 => ?_
    refine KV (R_assign rfl) rfl ?_
    refine K_nil ?_
    refine Q_then ?_
    refine K_ret ?_
    refine results_gen (rs := [.tmp 2]) (vs := [_]) rfl ⟨rfl, trivial⟩ ?_
    rw [List.append_nil]; rfl

end Go.Proofs.X

namespace Go.Proofs.X
open Go Pal Go.Proofs
attribute [local irreducible] Pal.KO Pal.KC Pal.KQ Pal.KD
end Go.Proofs.X

namespace Go.Proofs.X
open Go Pal Go.Proofs
attribute [local irreducible] Pal.KO Pal.KC Pal.KQ Pal.KD

theorem visitV_spec (n k gf : Nat) (cap : List Value) (T : List (List Int)) (E : List (List Int) → View → HL → Prop) (H0 : View) (hV : VisitV Tryz.prog gf cap H0 T E) (hcal : callable Tryz.prog gf = true) (hk : k ≤ 1099511627776) (hn : n ≤ 1099511627776)
    (b1 b2 b3 b4 : Nat) : ∀ m xs pre a len cp H p, xs.length = len → VLe H0 H → len + m = n → SI H (.slice a len cp) xs → len ≤ cp → E pre H p → (pre ++ ext k m xs) <+: T →
    At H b1 0 [.int .i64 (n : Int)] → At H b2 0 [.func (.func gf) #[] cap.toArray] → At H b3 0 [.int .i64 (k : Int)] → At H b4 0 [.func (.func F83) #[] #[ptr b1, ptr b2, ptr b3, ptr b4]] →
    SatO Tryz.prog F83 #[.slice a len cp, ptr b1, ptr b2, ptr b3, ptr b4] H p (fun v V' q => ∃ r : Bool, v = .bool r ∧ r = true ∧ E (pre ++ ext k m xs) V' q) := by
  intro m
  induction m using Nat.strongRecOn with | _ m ih =>
  intro xs pre a len cp H p hlen h0 hm hs hcp hE hpf h1 h2 h3 h4
  refine enterO (n := 28) (args := [.slice a len cp, ptr b1, ptr b2, ptr b3, ptr b4]) Tryz.func86 rfl rfl rfl fun w0 => ?_
  refine K_seq ?_
  refine K_region ?_
  refine KV (R_assign rfl) rfl ?_
  refine K_nil ?_
  refine Q_then ?_
  refine K_seq ?_
  refine K_seq ?_
  refine K_region ?_
  refine KV (R_move rfl) rfl ?_
  refine KV (R_len sl25 rfl) rfl ?_
  refine KV (R_loadH ty3 rfl (h1) rfl (fun _ => rfl) rfl) rfl ?_
  refine KV (R_cmp rfl rfl rfl) rfl ?_
  refine K_nil ?_
  refine Q_then ?_
  refine K_if rfl (fun h11 => ?_) (fun h11 => ?_)
  ·
    have hm0 : m = 0 := by omega
    subst hm0
    refine K_seq ?_
    refine K_region ?_
    refine KV (R_loadH ty108 rfl (h2) rfl (fun _ => rfl) rfl) rfl ?_
    refine KV (R_move rfl) rfl ?_
    refine K_callO (first := []) p [] (by rw [List.append_nil]) hcal rfl rfl rfl (hV.2 H pre xs a len cp p hlen h0 hE hpf hs hcp) ?_
    rintro _ V1 q hle ⟨rfl, hr1⟩
    refine KV (R_assign rfl) rfl ?_
    refine K_nil ?_
    refine Q_then ?_
    refine K_ret ?_
    refine Q_then_ret ?_
    refine results_gen (rs := [.tmp 6]) (vs := [_]) rfl ⟨rfl, trivial⟩ ?_
    exact ⟨true, rfl, rfl, by rw [List.append_nil]; exact hr1⟩
  ·
    obtain ⟨m, rfl⟩ : ∃ m', m = m' + 1 := ⟨m - 1, by omega⟩
    refine K_skip ?_
    refine Q_then ?_
    refine K_seq ?_
    refine K_seq ?_
    refine K_region ?_
    refine KV (R_loadH ty3 rfl (h3) rfl (fun _ => rfl) rfl) rfl ?_
    refine KV (R_move rfl) rfl ?_
    refine K_nil ?_
    refine Q_then ?_
    refine K_block ?_
    refine K_loop (G := Nat × View × HL) ⟨fun g => [(0, .slice a len cp), (1, ptr b1), (2, ptr b2), (3, ptr b3), (4, ptr b4), (15, .int .i64 (k : Int)), (16, .int .i64 (g.1 : Int))], fun g => g.2.2, fun g => g.2.1, fun g => g.1 ≤ k ∧ VLe H g.2.1 ∧ E (pre ++ extTo k m xs g.1) g.2.1 g.2.2, fun g => k - g.1⟩ (0, H, p) ⟨Nat.zero_le _, VLe.refl H, by simpa [extTo] using hE⟩ ⟨rfl, rfl, rfl, rfl, rfl, rfl, rfl, trivial⟩ rfl rfl ?_
    rintro ⟨i, V, p'⟩ ⟨hi0, hV1, hE1⟩
    dsimp only at hi0 hV1 hE1 ⊢
    refine K_seq ?_
    refine K_region ?_
    refine KV (R_cmp rfl rfl rfl) rfl ?_
    refine K_nil ?_
    refine Q_then ?_
    refine K_seq ?_
    refine K_if rfl (fun h17 => ?_) (fun h17 => ?_)
    ·
      have hi : i < k := by omega
      refine K_skip ?_
      refine Q_then ?_
      refine K_seq ?_
      refine K_block ?_
      refine K_seq ?_
      refine K_region ?_
      refine KV (R_move rfl) rfl ?_
      refine KV (R_assign rfl) rfl ?_
      refine K_nil ?_
      refine Q_then ?_
      refine K_seq ?_
      refine K_regionD (fin := false) (R := [0, 1, 3, 2, 4, 5, 6, 7]) (by kernel_rfl) mixed (List.nil_sublist _) ?_
      refine D_val rfl rfl rfl (R_loadH ty108 rfl (h4.mono hV1) rfl (fun _ => rfl) rfl) ?_
      refine D_val rfl rfl rfl (R_move rfl) ?_
      refine D_val rfl rfl rfl (R_move rfl) ?_
      refine D_call rfl rfl c84 rfl trivial (clip_spec a len cp hcp V) ?_
      rintro _ V2 hle2 rfl
      refine D_alloc rfl rfl rfl (A_buildSlice (vs := [.int .i64 (i : Int)]) sl25 ty3 z3 rfl rfl (by simp [Value.cells]) (by simp) rfl (by decide)) fun b23 => ?_
      refine D_appendPub1 ap25 rfl rfl rfl ((hlen ▸ hs.1.mono (hV1.trans hle2)).recap len) (by simp [ints, hlen]) rfl rfl trivial rfl ⟨by omega, by omega⟩ fun v24 V3 hle3 hv24 => ?_
      obtain ⟨hsl, a24, c24, rfl, hc24⟩ := hv24
      refine D_callO (first := []) p' [] rfl rfl c83 rfl rfl (by rw [List.append_nil]) trivial (ih m (by omega) (xs ++ [(i : Int)]) (pre ++ extTo k m xs i) a24 (len + 1) c24 V3 p' (by simp [hlen]) (h0.trans (hV1.trans (hle2.trans hle3))) (by omega) (by subst hlen; exact SI.snoc hs.2 (by omega) hsl) hc24 (hV.1 _ _ _ _ (hle2.trans hle3) hE1) ?_ (h1.mono (hV1.trans (hle2.trans hle3))) (h2.mono (hV1.trans (hle2.trans hle3))) (h3.mono (hV1.trans (hle2.trans hle3))) (h4.mono (hV1.trans (hle2.trans hle3)))) ?_
      · exact ext_prefix hi hpf
      rintro _ V4 q hle4 ⟨r, rfl, hr, hr1⟩
      refine D_val rfl rfl rfl (R_not rfl) ?_
      refine D_done ?_
      refine Q_then ?_
      cases r with
      | false =>
        refine K_ifT rfl ?_
        refine K_seq ?_
        refine K_region ?_
        refine KV (R_assign rfl) rfl ?_
        refine K_nil ?_
        refine Q_then ?_
        refine K_ret ?_
        refine Q_block_ret ?_
        refine Q_then_ret ?_
        refine Q_then_ret ?_
        refine Q_block_ret ?_
        refine Q_then_ret ?_
        refine results_gen (rs := [.tmp 6]) (vs := [_]) rfl ⟨rfl, trivial⟩ ?_
        cases hr
      | true =>
        refine K_ifF rfl ?_
        refine K_skip ?_
        refine Q_block ?_
        refine Q_then ?_
        refine K_region ?_
        refine KV (R_add rfl rfl (by omega)) rfl ?_
        refine KV (R_move rfl) rfl ?_
        refine K_nil ?_
        refine Q_next (i + 1, V4, q) ⟨hi, hV1.trans (hle2.trans (hle3.trans hle4)), ?_⟩ (by dsimp only; omega) ⟨rfl, rfl, rfl, rfl, rfl, rfl, rfl, trivial⟩ (List.append_nil _) rfl
        rw [extTo_succ, ← List.append_assoc]
        exact hr1
    ·
      have hi : i = k := by omega
      subst hi
      refine K_exit ?_
      refine Q_then_exit ?_
      refine Q_then_exit ?_
      refine Q_block_exit ?_
      refine Q_then ?_
      refine K_seq ?_
      refine K_region ?_
      refine KV (R_assign rfl) rfl ?_
      refine K_nil ?_
      refine Q_then ?_
      refine K_ret ?_
      refine results_gen (rs := [.tmp 6]) (vs := [_]) rfl ⟨rfl, trivial⟩ ?_
      exact ⟨true, rfl, rfl, hE1⟩

theorem tuplesV_spec (n k gf : Nat) (cap : List Value) (E : List (List Int) → View → HL → Prop) (H : View) (p : HL) (hV : VisitV Tryz.prog gf cap H (ext k n []) E) (hcal : callable Tryz.prog gf = true) (hk : k ≤ 1099511627776) (hn : n ≤ 1099511627776) (hE : E [] H p) :
    SatO Tryz.prog F48 #[.int .i64 (n : Int), .int .i64 (k : Int), .func (.func gf) #[] cap.toArray] H p (fun _ V' q => E (ext k n []) V' q) := by
  refine enterO (n := 11) (args := [.int .i64 (n : Int), .int .i64 (k : Int), .func (.func gf) #[] cap.toArray]) Tryz.func52 rfl rfl rfl fun w0 => ?_
  refine K_seq ?_
  refine K_region ?_
  refine KA (A_box rfl) rfl fun b3 => ?_
  refine KA (A_box rfl) rfl fun b4 => ?_
  refine KA (A_box rfl) rfl fun b5 => ?_
  refine KV (R_assign rfl) rfl ?_
  refine K_nil ?_
  refine Q_then ?_
  refine K_seq ?_
  refine K_region ?_
  refine KA (A_alloc z108) rfl fun b7 => ?_
  refine K_nil ?_
  refine Q_then ?_
  refine K_seq ?_
  refine K_region ?_
  refine KV (R_makeFunc rfl rfl) rfl ?_
  refine K_store ty108 0 rfl rfl rfl rfl rfl rfl ?_
  refine K_nil ?_
  refine KQ_pubF fun V1 hle1 hb7 => ?_
  refine KQ_pubF fun V2 hle2 hb5 => ?_
  refine KQ_pubF fun V3 hle3 hb4 => ?_
  refine KQ_pubF fun V4 hle4 hb3 => ?_
  have hv4 := hle1.trans (hle2.trans (hle3.trans hle4))
  refine Q_then ?_
  refine K_seq ?_
  refine K_region ?_
  refine KV (R_loadH ty108 rfl ((At.of hb7).mono (hle2.trans (hle3.trans hle4))) rfl (fun _ => rfl) rfl) rfl ?_
  refine K_callO (first := []) p [] (by rw [List.append_nil]) c83 rfl rfl rfl (visitV_spec n k gf cap (ext k n []) E H hV hcal hk hn b3 b5 b4 b7 n [] [] none 0 0 V4 p rfl hv4 (by omega) ⟨⟨none, 0, rfl, .inl ⟨rfl, rfl⟩⟩, by simp⟩ (Nat.le_refl _) (hV.1 _ _ _ _ hv4 hE) (List.prefix_refl _) (At.of hb3) ((At.of hb5).mono (hle3.trans hle4)) ((At.of hb4).mono hle4) ((At.of hb7).mono (hle2.trans (hle3.trans hle4)))) ?_
  rintro _ V5 q hle5 ⟨r, rfl, hr, hr1⟩
  refine KV (R_assign rfl) rfl ?_
  refine K_nil ?_
  refine Q_then ?_
  refine K_ret ?_
  refine results_gen (rs := [.tmp 6]) (vs := [_]) rfl ⟨rfl, trivial⟩ ?_
  rw [List.append_nil]; exact hr1

theorem ruleout_spec (d : Dt) (hok : DtOk d) (s i k n : Nat) (xs : List Int) (b9 b10 b1 b12 : Nat) (w1 w2 w3 vr v : Value) (ua : Option Addr) (uc : Nat) (cells : List Value) (H : View) (hd : RepDt H d w1 w2 w3) (hA1 : At H b1 0 [w1, w2, w3]) (hA10 : At H b10 0 [.int .i64 (s : Int)]) (hv : SI H v xs)
    (hs : s < d.ranks.length) (hi : i < (tups d.acc.length (d.ranks.getD s 0).toNat).length) (hx : (tups d.acc.length (d.ranks.getD s 0).toNat)[i] = xs) (hk : k ≤ 1048576) (hi2 : i ≤ 1048576) :
    SatO Tryz.prog F64 #[v, ptr b9, ptr b10, ptr b1, ptr b12] H [blk b9 (.cells #[vr, .int .i64 (n : Int), .slice ua k uc, nilS] T50 (0, 0)), row (.slice ua k uc) T85 3 k cells, blk b12 (.cells #[.int .i64 (i : Int)] T3 (0, 0))]
      (fun r V' q => r = .bool true ∧ ∃ ua' uc' v', q = [blk b9 (.cells #[vr, .int .i64 (n : Int), .slice ua' (k + 1) uc', nilS] T50 (0, 0)), row (.slice ua' (k + 1) uc') T85 3 (k + 1) (cells ++ [.int .i64 (s : Int), v', .int .i64 (atM d (s : Int) xs)]), blk b12 (.cells #[.int .i64 ((i : Int) + 1)] T3 (0, 0))] ∧ ∃ a cp, v' = .slice a xs.length cp ∧ SI V' v' xs) := by
  obtain ⟨xa, xcp, rfl⟩ := hv.shape
  obtain ⟨ua1, uc1x, rfl⟩ := hd.r.shape
  obtain ⟨ua2, uc2x, rfl⟩ := hd.a.shape
  obtain ⟨ua3, uc3x, rfl⟩ := hd.t.shape
  obtain ⟨h1, h2, hat⟩ := at_place hok hs hi hx
  have hxl : xs.length ≤ 1048576 := by
    have h3 := (tups_item (List.getElem_mem hi)).1
    rw [hx] at h3
    have h4 := (ranksErr_ok hok.rk).2 s hs
    have e : d.ranks.getD s 0 = d.ranks[s] := by simp [List.getD, hs]
    rw [e] at h3; omega
  obtain ⟨db, do_, ea, ecp, hde, htx, hes⟩ := hd.t.get h1
  cases hde
  obtain ⟨fb, fo, hfe, hte⟩ := hes.get h2
  cases hfe
  have hA12 := hA1.one (j := 2) rfl
  refine enterO (n := 26) (args := [.slice xa xs.length xcp, ptr b9, ptr b10, ptr b1, ptr b12]) Tryz.func97 rfl rfl rfl fun w0 => ?_
  refine K_seq ?_
  refine K_region ?_
  refine KV (R_assign rfl) rfl ?_
  refine K_nil ?_
  refine Q_then ?_
  refine K_seq ?_
  refine K_regionD (fin := true) (R := [0, 1, 2, 3, 5, 6, 7, 8, 9, 10, 11, 12, 4, 13, 14, 15, 16, 17]) (by kernel_rfl) mixed (.cons_cons _ (.cons _ (.cons_cons _ (List.nil_sublist _)))) ?_
  refine D_val rfl rfl rfl (R_fieldAddr 2 fd50_2 rfl) ?_
  refine D_val rfl rfl rfl (R_loadO ty48 0 rfl rfl rfl rfl (fun _ => rfl) rfl) ?_
  refine D_val rfl rfl rfl (R_loadH ty3 rfl (hA10) rfl (fun _ => rfl) rfl) ?_
  refine D_val rfl rfl rfl (R_move rfl) ?_
  refine D_val rfl rfl rfl (R_fieldAddr 2 fd54_2 rfl) ?_
  refine D_val rfl rfl rfl (R_loadH ty44 rfl (hA12) rfl (fun _ => rfl) rfl) ?_
  refine D_val rfl rfl rfl (R_loadH ty3 rfl (hA10) rfl (fun _ => rfl) rfl) ?_
  refine D_val rfl rfl rfl (R_index sl44 ty25 rfl rfl ⟨by omega, by omega⟩) ?_
  refine D_val rfl rfl rfl (R_loadH ty25 rfl (htx) rfl (fun _ => rfl) rfl) ?_
  refine D_val rfl rfl rfl (R_loadO ty3 1 rfl rfl rfl rfl (fun _ => rfl) rfl) ?_
  refine D_val rfl rfl rfl (R_index sl25 ty3 rfl rfl ⟨by omega, by omega⟩) ?_
  refine D_val rfl rfl rfl (R_loadH ty3 rfl (hte) rfl (fun _ => rfl) rfl) ?_
  refine D_call rfl rfl c65 rfl ⟨⟨0, rfl⟩, ⟨2, rfl⟩, trivial⟩ (clone25_spec xs _ H hv (by omega)) ?_
  rintro cv V1 hle1 hcv
  obtain ⟨ca, cc, rfl⟩ := hcv.shape
  refine D_val rfl rfl rfl (R_build z85 pl85 rfl rfl) ?_
  refine D_alloc rfl rfl rfl (A_buildSlice (vs := [.agg #[.int .i64 (s : Int), .slice ca xs.length cc, .int .i64 d.to[s][i]]]) sl48 ty85 z85 rfl rfl (by simp [Value.cells]) (by simp) rfl (by decide)) fun b21 => ?_
  refine D_append1 1 ap48 rfl rfl rfl rfl rfl rfl ⟨⟨0, rfl⟩, ⟨1, rfl⟩, trivial⟩ rfl rfl ⟨by omega, by omega⟩ fun a22 k22 hn22 => ?_
  refine D_val rfl rfl rfl (R_fieldAddr 2 fd50_2 rfl) ?_
  refine D_lastStore ty48 1 rfl rfl rfl rfl rfl rfl rfl rfl ?_
  refine Q_then ?_
  refine K_seq ?_
  refine K_region ?_
  refine KV (R_loadO ty3 2 rfl rfl rfl rfl (fun _ => rfl) rfl) rfl ?_
  refine KV (R_add rfl rfl (by omega)) rfl ?_
  refine K_store ty3 2 rfl rfl rfl rfl rfl rfl ?_
  refine K_nil ?_
  refine Q_then ?_
  refine K_seq ?_
  refine K_region ?_
  refine KV (R_assign rfl) rfl ?_
  refine K_nil ?_
  refine Q_then ?_
  refine K_ret ?_
  refine results_sel [1, 0, 0] rfl (rs := [.tmp 6]) (vs := [_]) rfl ⟨rfl, trivial⟩ ?_
  rw [hat]
  exact ⟨rfl, a22, k22, _, rfl, ca, cc, rfl, hcv⟩
end Go.Proofs.X

namespace Go.Proofs.X
open Go Pal Go.Proofs
attribute [local irreducible] Pal.KO Pal.KC Pal.KQ Pal.KD
theorem c64 : callable Tryz.prog F64 = true := by kernel_rfl
theorem tonta_spec (d : Dt) (hb : d.ranks.length ≤ 1048576 ∧ d.acc.length ≤ 1048576 ∧ d.to.length ≤ 1048576 ∧ ∀ x ∈ d.to, x.length ≤ 1048576) (hsm : dtErr d = 0 → d.acc.length ≤ 5 ∧ d.ranks.length ≤ 8) (w1 w2 w3 : Value) (H : View) (hd : RepDt H d w1 w2 w3) :
    Sat Tryz.prog F27 #[.agg #[w1, w2, w3]] H (fun r H' => ∃ v1 v2 v3, r = .tuple #[.agg #[v1, .int .i64 (if dtErr d ≠ 0 then (⟨[], 0, [], []⟩ : Au) else ntaM d).states, v2, v3], .int .i64 (dtErr d)] ∧ RepAu H' (if dtErr d ≠ 0 then ⟨[], 0, [], []⟩ else ntaM d) v1 v2 v3) := by
  obtain ⟨ua1, uc1x, rfl⟩ := hd.r.shape
  obtain ⟨ua2, uc2x, rfl⟩ := hd.a.shape
  obtain ⟨ua3, uc3x, rfl⟩ := hd.t.shape
  refine enterO (n := 78) (args := [.agg #[.slice ua1 d.ranks.length uc1x, .slice ua2 d.acc.length uc2x, .slice ua3 d.to.length uc3x]]) Tryz.func61 rfl rfl rfl fun w0 => ?_
  refine K_seq ?_
  refine K_region ?_
  refine KA (A_box rfl) rfl fun b1 => ?_
  refine KA (A_alloc z50) rfl fun b2 => ?_
  refine KV (R_assign rfl) rfl ?_
  refine K_nil ?_
  refine Q_then ?_
  refine K_seq ?_
  refine K_seq ?_
  refine K_region ?_
  refine KV (R_loadO ty54 1 rfl rfl rfl rfl (fun e => by cases e) rfl) rfl ?_
  refine K_call c63 rfl rfl (dcheck_spec d _ _ _ H hd hb) ?_
  rintro _ V1 hv1 rfl
  refine KV (R_assign rfl) rfl ?_
  refine K_nil ?_
  refine Q_then ?_
  refine K_seq ?_
  refine K_region ?_
  refine KV (R_move rfl) rfl ?_
  refine KV (R_cmp rfl rfl rfl) rfl ?_
  refine K_nil ?_
  refine Q_then ?_
  refine K_if rfl (fun h18 => ?_) (fun h18 => ?_)
  ·
    refine K_seq ?_
    refine K_region ?_
    refine KV (R_build z50 pl50 rfl rfl) rfl ?_
    refine KV (R_move rfl) rfl ?_
    refine K_store ty50 0 rfl rfl rfl rfl rfl rfl ?_
    refine KV (R_assign rfl) rfl ?_
    refine K_nil ?_
    refine Q_then ?_
    refine K_ret ?_
    refine Q_then_ret ?_
    refine results_gen (rs := [.cell 2 62, .tmp 3]) (vs := [_, _]) rfl ⟨⟨_, _, _, _, _, _, 0, rfl, rfl, ty50, (fun e => by cases e), rfl, rfl⟩, ⟨rfl, trivial⟩⟩ ?_
    rw [if_pos (by omega)]
    exact ⟨_, _, _, rfl, RepAu.nil _⟩
  ·
    have hd0 : dtErr d = 0 := by omega
    have hok := DtOk.of hd0
    obtain ⟨hn5, hr8⟩ := hsm hd0
    have htl := hok.tl
    refine K_skip ?_
    refine Q_then ?_
    refine K_seq ?_
    refine K_region ?_
    refine KV (R_fieldAddr 1 fd54_1 rfl) rfl ?_
    refine KV (R_loadO ty52 1 rfl rfl rfl rfl (fun _ => rfl) rfl) rfl ?_
    refine KV (R_len sl52 rfl) rfl ?_
    refine KV (R_assign rfl) rfl ?_
    refine KV (R_assign rfl) rfl ?_
    refine K_nil ?_
    refine KQ_front 1 rfl ?_
    refine KQ_pubF fun Vb hvb hb1 => ?_
    dsimp only [List.eraseIdx]
    have hA1 := At.of hb1
    have hA10 := hA1.one (j := 0) rfl
    have hA11 := hA1.one (j := 1) rfl
    have hA12 := hA1.one (j := 2) rfl
    refine Q_then ?_
    refine K_seq ?_
    refine K_seq ?_
    refine K_region ?_
    refine KV (R_fieldAddr 2 fd54_2 rfl) rfl ?_
    refine KV (R_loadH ty44 rfl (hA12) rfl (fun _ => rfl) rfl) rfl ?_
    refine KV (R_len sl44 rfl) rfl ?_
    refine KV (R_move rfl) rfl ?_
    refine K_nil ?_
    refine Q_then ?_
    refine K_block ?_
    refine K_loopD (G := Nat × Int) [6, 8, 27, 28, 29, 30, 31, 32, 33, 34, 35] (fun g => [(27, .int .i64 (g.1 : Int)), (6, .int .i64 g.2)]) (fun hl g => hl) (fun g => Vb) (fun g => (g.1 ≤ d.to.length) ∧ (0 ≤ g.2 ∧ g.2 ≤ 25 * (g.1 : Int))) (fun g => d.to.length - g.1) (0, 0) ⟨Nat.zero_le _, by decide⟩ ⟨rfl, rfl, trivial⟩ (by simp only [args0, Nat.reduceAdd, del, memN, beqN, Nat.reduceBEq, cond_true, cond_false]; rfl) rfl rfl ?_
    rintro ⟨k, z⟩ ⟨hk, hz⟩
    dsimp only at hk hz
    dsimp only [List.set, List.cons_append, List.nil_append]
    refine K_seq ?_
    refine K_region ?_
    refine KV (R_cmp rfl rfl rfl) rfl ?_
    refine K_nil ?_
    refine Q_then ?_
    refine K_seq ?_
    refine K_if rfl (fun h28 => ?_) (fun h28 => ?_)
    ·
      have hk2 : k < d.to.length := by omega
      have hk25 := to_len25 hok hn5 hk2
      obtain ⟨tb, to_, ea, ecp, hte, hta, hes⟩ := (hd.mono (hv1.trans hvb)).t.get hk2
      cases hte
      refine K_skip ?_
      refine Q_then ?_
      refine K_seq ?_
      refine K_block ?_
      refine K_seq ?_
      refine K_region ?_
      refine KV (R_indexN sl44 ty25 rfl rfl (by omega)) rfl ?_
      refine KV (R_loadH ty25 rfl (hta) rfl (fun _ => rfl) rfl) rfl ?_
      refine KV (R_assign rfl) rfl ?_
      refine K_nil ?_
      refine Q_then ?_
      refine K_region ?_
      refine KV (R_move rfl) rfl ?_
      refine KV (R_move rfl) rfl ?_
      refine KV (R_len sl25 rfl) rfl ?_
      refine KV (R_add rfl rfl (by omega)) rfl ?_
      refine KV (R_assign rfl) rfl ?_
      refine K_nil ?_
      refine Q_block ?_
      refine Q_then ?_
      refine K_region ?_
      refine KV (R_add rfl rfl (by omega)) rfl ?_
      refine KV (R_move rfl) rfl ?_
      refine K_nil ?_
      refine Q_nextD (k + 1, z + (d.to[k].length : Int)) ⟨hk2, by omega⟩ (by (try dsimp only); omega) ⟨rfl, rfl, trivial⟩ rfl rfl rfl
    ·
      have hk2 : k = d.to.length := by omega
      refine K_exit ?_
      refine Q_then_exit ?_
      refine Q_then_exit ?_
      refine Q_block_exit ?_
      refine Q_then ?_
      refine K_seq ?_
      refine K_seq ?_
      refine K_region ?_
      refine KV (R_move rfl) rfl ?_
      refine KV (R_cmp rfl rfl rfl) rfl ?_
      refine KV (R_move rfl) rfl ?_
      refine K_split ?_ ?_
      ·
        intro h38
        refine K_gno rfl rfl rfl rfl ?_
        refine K_gno rfl rfl rfl rfl ?_
        refine KV (R_pickT rfl rfl) rfl ?_
        refine K_nil ?_
        refine Q_then ?_
        refine K_ifT rfl ?_
        refine K_seq ?_
        refine K_region ?_
        refine KV (R_build z50 pl50 rfl rfl) rfl ?_
        refine K_store ty50 0 rfl rfl rfl rfl rfl rfl ?_
        refine KV (R_assign rfl) rfl ?_
        refine K_nil ?_
        refine Q_then ?_
        refine K_ret ?_
        refine Q_then_ret ?_
        refine results_gen (rs := [.cell 2 62, .tmp 3]) (vs := [_, _]) rfl ⟨⟨_, _, _, _, _, _, 0, rfl, rfl, ty50, (fun e => by cases e), rfl, rfl⟩, ⟨rfl, trivial⟩⟩ ?_
        exfalso; omega
      ·
        intro h38
        refine K_gyes rfl rfl ?_
        refine KV (R_move rfl) rfl ?_
        refine K_gyes rfl rfl ?_
        refine KV (R_cmp rfl rfl rfl) rfl ?_
        refine KV (R_pickF rfl rfl) rfl ?_
        refine K_nil ?_
        refine Q_then ?_
        refine K_if rfl (fun h41 => ?_) (fun h41 => ?_)
        ·
          refine K_seq ?_
          refine K_region ?_
          refine KV (R_build z50 pl50 rfl rfl) rfl ?_
          refine K_store ty50 0 rfl rfl rfl rfl rfl rfl ?_
          refine KV (R_assign rfl) rfl ?_
          refine K_nil ?_
          refine Q_then ?_
          refine K_ret ?_
          refine Q_then_ret ?_
          refine results_gen (rs := [.cell 2 62, .tmp 3]) (vs := [_, _]) rfl ⟨⟨_, _, _, _, _, _, 0, rfl, rfl, ty50, (fun e => by cases e), rfl, rfl⟩, ⟨rfl, trivial⟩⟩ ?_
          exfalso; omega
        ·
          refine K_skip ?_
          refine Q_then ?_
          refine K_seq ?_
          refine K_region ?_
          refine KV (R_fieldAddr 0 fd54_0 rfl) rfl ?_
          refine KV (R_loadH ty47 rfl (hA10) rfl (fun _ => rfl) rfl) rfl ?_
          refine K_call c45 rfl rfl (clone47_spec d.ranks _ Vb (hd.mono (hv1.trans hvb)).r (by omega)) ?_
          rintro cr V0 hv0 hcr
          obtain ⟨ca, cc, rfl⟩ := hcr.shape
          refine KV (R_move rfl) rfl ?_
          refine KV (R_build z50 pl50 rfl rfl) rfl ?_
          refine KA (A_alloc z50) rfl fun b9 => ?_
          refine K_store ty50 0 rfl rfl rfl rfl rfl rfl ?_
          refine K_nil ?_
          refine Q_then ?_
          refine K_seq ?_
          refine K_seq ?_
          refine K_region ?_
          refine KV (R_fieldAddr 0 fd54_0 rfl) rfl ?_
          refine KV (R_loadH ty47 rfl (hA10.mono hv0) rfl (fun _ => rfl) rfl) rfl ?_
          refine KV (R_len sl47 rfl) rfl ?_
          refine KV (R_move rfl) rfl ?_
          refine K_nil ?_
          refine Q_then ?_
          refine K_block ?_
          refine K_nilrow T85 3 ?_
          refine K_loopD (G := Nat × View × Option Addr × Nat × List Value) [10, 11, 12, 51, 52, 53, 54, 55, 56, 57, 58, 59, 60] (fun g => [(51, .int .i64 (g.1 : Int))]) (fun hl g => ((hl.set 0 (row (.slice g.2.2.1 (rulesTo d g.1).length g.2.2.2.1) T85 3 (rulesTo d g.1).length g.2.2.2.2)).set 1 (blk b9 (.cells #[.slice ca d.ranks.length cc, .int .i64 (d.acc.length : Int), .slice g.2.2.1 (rulesTo d g.1).length g.2.2.2.1, nilS] T50 (0, 0))))) (fun g => g.2.1) (fun g => (g.1 ≤ d.ranks.length) ∧ (VLe V0 g.2.1) ∧ (RepL (RepR g.2.1) 3 (rulesTo d g.1) g.2.2.2.2)) (fun g => d.ranks.length - g.1) (0, V0, none, 0, []) ⟨Nat.zero_le _, VLe.refl _, .nil⟩ ⟨rfl, trivial⟩ (by simp only [args0, Nat.reduceAdd, del, memN, beqN, Nat.reduceBEq, cond_true, cond_false]; rfl) rfl rfl ?_
          rintro ⟨s, V, ua, uc, cells⟩ ⟨hs, hV, hC⟩
          dsimp only at hs hV hC
          dsimp only [List.set, List.cons_append, List.nil_append]
          have hrtl := rulesTo_len hok hn5 hs
          refine K_seq ?_
          refine K_region ?_
          refine KV (R_cmp rfl rfl rfl) rfl ?_
          refine K_nil ?_
          refine Q_then ?_
          refine K_seq ?_
          refine K_if rfl (fun h52 => ?_) (fun h52 => ?_)
          ·
            have hs2 : s < d.ranks.length := by omega
            obtain ⟨rb, ro, hre, hrka⟩ := (hd.mono (hv1.trans (hvb.trans (hv0.trans hV)))).r.get hs2
            cases hre
            have hrk2 := (ranksErr_ok hok.rk).2 s hs2
            obtain ⟨nn, hnn⟩ : ∃ nn : Nat, d.ranks[s] = (nn : Int) := ⟨d.ranks[s].toNat, by omega⟩
            have hnt : d.ranks[s].toNat = nn := by omega
            rw [hnn] at hrka
            have hgd : d.ranks.getD s 0 = d.ranks[s] := by simp [List.getD, hs2]
            have htl5 : (tups d.acc.length nn).length ≤ 262144 := by rw [tups_len]; exact pow_le2 (by omega) (by omega)
            refine K_skip ?_
            refine Q_then ?_
            refine K_seq ?_
            refine K_block ?_
            refine K_seq ?_
            refine K_region ?_
            refine KV (R_move rfl) rfl ?_
            refine KV (R_indexN sl47 ty3 rfl rfl (by omega)) rfl ?_
            refine KV (R_loadH ty3 rfl (hrka) rfl (fun _ => rfl) rfl) rfl ?_
            refine KA (A_alloc z3) rfl fun b10 => ?_
            refine K_store ty3 0 rfl rfl rfl rfl rfl rfl ?_
            refine KV (R_assign rfl) rfl ?_
            refine K_nil ?_
            refine Q_then ?_
            refine K_seq ?_
            refine K_region ?_
            refine KA (A_alloc z3) rfl fun b12 => ?_
            refine K_store ty3 0 rfl rfl rfl rfl rfl rfl ?_
            refine K_nil ?_
            refine Q_then ?_
            refine KC_front 1 rfl ?_
            refine KC_pubF fun Vp hvp hb10 => ?_
            try dsimp only [List.eraseIdx]
            refine K_region ?_
            refine KV (R_move rfl) rfl ?_
            refine KV (R_move rfl) rfl ?_
            refine KV (R_makeFunc rfl rfl) rfl ?_
            refine KO_sel [2, 1, 0, 0] rfl ?_
            have hvis : VisitV Tryz.prog F64 [ptr b9, ptr b10, ptr b1, ptr b12] Vp (ext d.acc.length nn []) (fun pre V q => ∃ ua uc cs, q = [blk b9 (.cells #[.slice ca d.ranks.length cc, .int .i64 (d.acc.length : Int), .slice ua (rulesTo d s ++ pre.map (rlD d s)).length uc, nilS] T50 (0, 0)), row (.slice ua (rulesTo d s ++ pre.map (rlD d s)).length uc) T85 3 (rulesTo d s ++ pre.map (rlD d s)).length cs, blk b12 (.cells #[.int .i64 (pre.length : Int)] T3 (0, 0))] ∧ RepL (RepR V) 3 (rulesTo d s ++ pre.map (rlD d s)) cs) := by
              refine ⟨fun pre V V' q hle ⟨ua, uc, cs, g1, g2⟩ => ⟨ua, uc, cs, g1, g2.imp fun _ _ h => h.mono hle⟩, ?_⟩
              rintro G pre xs xa len cp p hlen hle ⟨ua2, uc2, cs2, rfl, hC2⟩ hpf hxs hcp
              rw [ext_nil] at hpf
              obtain ⟨hi9, hx9⟩ := prefix_at hpf
              have hch := hv0.trans (hV.trans (hvp.trans hle))
              have hbd := hpf.length_le
              rw [List.length_append] at hbd
              subst hlen
              have hat := (hok.at_ok (s := (s : Int)) (l := xs) ⟨by omega, by omega⟩ (by rw [← hx9, (tups_item (List.getElem_mem hi9)).1, Int.toNat_natCast, hgd]; omega) (by rw [← hx9]; exact (tups_item (List.getElem_mem hi9)).2)).2.2
              have hxl := (tups_item (List.getElem_mem hi9)).1
              rw [hx9] at hxl
              refine (ruleout_spec d hok s pre.length (rulesTo d s ++ pre.map (rlD d s)).length d.acc.length xs b9 b10 b1 b12 _ _ _ _ _ ua2 uc2 cs2 G (hd.mono (hv1.trans (hvb.trans hch))) (hA1.mono hch) ((At.of hb10).mono hle) hxs hs2 (by rw [hgd, hnt]; exact hi9) (by simp only [hgd, hnt]; exact hx9) (by rw [List.length_append, List.length_map]; omega) (by omega)).monoL ?_
              rintro v V' q hvq ⟨rfl, ua', uc', v', rfl, a', cp', rfl, hsv⟩
              have e1 : rulesTo d s ++ (pre ++ [xs]).map (rlD d s) = (rulesTo d s ++ pre.map (rlD d s)) ++ [rlD d s xs] := by rw [List.map_append, ← List.append_assoc]; rfl
              have e2 : ((rulesTo d s ++ pre.map (rlD d s)) ++ [rlD d s xs]).length = (rulesTo d s ++ pre.map (rlD d s)).length + 1 := by rw [List.length_append]; rfl
              have e3 : (((pre ++ [xs]).length : Nat) : Int) = (pre.length : Int) + 1 := by rw [List.length_append]; simp
              refine ⟨rfl, ?_⟩
              dsimp only
              rw [e1, e2, e3]
              refine ⟨ua', uc', _, rfl, (hC2.imp fun _ _ h => h.mono hvq).snoc ⟨a', cp', rfl, hsv, by simp only [rlD, i64ok]; omega, by simp only [rlD, i64ok]; omega, by simp only [rlD]; omega⟩ rfl⟩
            refine K_callO (first := []) [_, _, _] [_] (List.Perm.refl _) c48 rfl rfl rfl (tuplesV_spec nn d.acc.length F64 [ptr b9, ptr b10, ptr b1, ptr b12] _ Vp _ hvis c64 (by omega) (by omega) ⟨ua, uc, cells, by simp only [List.map_nil, List.append_nil]; rfl, by simp only [List.map_nil, List.append_nil]; exact hC.imp fun _ _ h => h.mono hvp⟩) ?_
            rintro _ V2 q hle2 ⟨ua2, uc2, cs2, rfl, hC2⟩
            dsimp only [List.cons_append, List.nil_append]
            have hus : rulesTo d s ++ (ext d.acc.length nn []).map (rlD d s) = rulesTo d (s + 1) := by rw [ext_nil, rulesTo_succ, hgd, hnt]
            rw [hus] at hC2 ⊢
            refine K_nil ?_
            refine KQ_sel [1, 0, 1] rfl ?_
            refine Q_block ?_
            refine Q_then ?_
            refine K_region ?_
            refine KV (R_add rfl rfl (by omega)) rfl ?_
            refine KV (R_move rfl) rfl ?_
            refine K_nil ?_
            refine Q_nextD (s + 1, V2, ua2, uc2, cs2) ⟨hs2, hV.trans (hvp.trans hle2), hC2⟩ (by (try dsimp only); omega) ⟨rfl, trivial⟩ rfl rfl rfl
          ·
            have hs2 : s = d.ranks.length := by omega
            subst hs2
            refine K_exit ?_
            refine Q_then_exit ?_
            refine Q_then_exit ?_
            refine Q_block_exit ?_
            refine Q_then ?_
            refine K_seq ?_
            refine K_seq ?_
            refine K_region ?_
            refine KV (R_fieldAddr 1 fd54_1 rfl) rfl ?_
            refine KV (R_loadH ty52 rfl (hA11.mono (hv0.trans hV)) rfl (fun _ => rfl) rfl) rfl ?_
            refine KV (R_len sl52 rfl) rfl ?_
            refine KV (R_move rfl) rfl ?_
            refine K_nil ?_
            refine Q_then ?_
            refine K_block ?_
            refine K_nilrow T3 1 ?_
            refine K_loopD (G := Nat × Value) [13, 14, 64, 65, 66, 67, 68, 69, 70, 71, 72, 73, 74, 75, 76] (fun g => [(64, .int .i64 (g.1 : Int))]) (fun hl g => ((hl.set 0 (row g.2 T3 1 (finTo d g.1).length (ints (finTo d g.1)))).set 2 (blk b9 (.cells #[.slice ca d.ranks.length cc, .int .i64 (d.acc.length : Int), .slice ua (rulesTo d d.ranks.length).length uc, g.2] T50 (0, 0))))) (fun g => V) (fun g => (g.1 ≤ d.acc.length) ∧ (∃ ad cp, g.2 = .slice ad (finTo d g.1).length cp)) (fun g => d.acc.length - g.1) (0, nilS) ⟨Nat.zero_le _, none, 0, rfl⟩ ⟨rfl, trivial⟩ (by simp only [args0, Nat.reduceAdd, del, memN, beqN, Nat.reduceBEq, cond_true, cond_false]; rfl) rfl rfl ?_
            rintro ⟨q, wf⟩ ⟨hq, hwf⟩
            dsimp only at hq hwf
            dsimp only [List.set, List.cons_append, List.nil_append]
            obtain ⟨fa, fcp, rfl⟩ := hwf
            have hfl : (finTo d q).length ≤ q := subL_len _ _
            refine K_seq ?_
            refine K_region ?_
            refine KV (R_cmp rfl rfl rfl) rfl ?_
            refine K_nil ?_
            refine Q_then ?_
            refine K_seq ?_
            refine K_if rfl (fun h65 => ?_) (fun h65 => ?_)
            ·
              have hq2 : q < d.acc.length := by omega
              obtain ⟨qb, qo, hqe, hqa⟩ := (hd.mono (hv1.trans (hvb.trans (hv0.trans hV)))).a.get hq2
              cases hqe
              have hgq : d.acc.getD q false = d.acc[q] := by simp [List.getD, hq2]
              refine K_skip ?_
              refine Q_then ?_
              refine K_seq ?_
              refine K_block ?_
              refine K_seq ?_
              refine K_region ?_
              refine KV (R_move rfl) rfl ?_
              refine KV (R_indexN sl52 ty4 rfl rfl (by omega)) rfl ?_
              refine KV (R_loadH ty4 rfl (hqa) rfl (fun _ => rfl) rfl) rfl ?_
              refine KV (R_assign rfl) rfl ?_
              refine KV (R_assign rfl) rfl ?_
              refine K_nil ?_
              refine Q_then ?_
              refine K_seq ?_
              refine K_region ?_
              refine KV (R_move rfl) rfl ?_
              refine K_nil ?_
              refine Q_then ?_
              refine K_ifB rfl (fun h69 => ?_) (fun h69 => ?_)
              ·
                have h69' : (fun s => d.acc.getD s false) q = true := by dsimp only; rw [hgq]; exact h69
                refine K_region ?_
                refine KV (R_fieldAddr 3 fd50_3 rfl) rfl ?_
                refine KV (R_loadO ty25 2 rfl rfl rfl rfl (fun _ => rfl) rfl) rfl ?_
                refine KV (R_move rfl) rfl ?_
                refine KA (A_buildSlice (vs := [.int .i64 (q : Int)]) sl25 ty3 z3 rfl rfl (by simp [Value.cells]) (by simp) rfl (by decide)) rfl fun b73 => ?_
                refine K_append1 0 ap25 rfl rfl rfl rfl rfl rfl ⟨by omega, by omega⟩ rfl fun a74 k74 hn74 => ?_
                refine KV (R_fieldAddr 3 fd50_3 rfl) rfl ?_
                refine K_store ty25 2 rfl rfl rfl rfl rfl rfl ?_
                refine K_nil ?_
                refine Q_block ?_
                refine Q_then ?_
                refine K_region ?_
                refine KV (R_add rfl rfl (by omega)) rfl ?_
                refine KV (R_move rfl) rfl ?_
                refine K_nil ?_
                refine Q_nextD (q + 1, .slice a74 ((finTo d q).length + 1) k74) ⟨hq2, _, _, by unfold finTo; rw [subL_yes h69', List.length_append]; rfl⟩ (by (try dsimp only); omega) ⟨rfl, trivial⟩ rfl (by dsimp only; unfold finTo; rw [subL_yes h69', List.length_append, ints_snoc]; rfl) rfl
              ·
                have h69' : (fun s => d.acc.getD s false) q = false := by dsimp only; rw [hgq]; exact h69
                refine K_skip ?_
                refine Q_block ?_
                refine Q_then ?_
                refine K_region ?_
                refine KV (R_add rfl rfl (by omega)) rfl ?_
                refine KV (R_move rfl) rfl ?_
                refine K_nil ?_
                refine Q_nextD (q + 1, .slice fa (finTo d q).length fcp) ⟨hq2, _, _, by unfold finTo; rw [subL_no h69']⟩ (by (try dsimp only); omega) ⟨rfl, trivial⟩ rfl (by dsimp only; unfold finTo; rw [subL_no h69']) rfl
            ·
              have hq2 : q = d.acc.length := by omega
              subst hq2
              refine K_exit ?_
              refine Q_then_exit ?_
              refine Q_then_exit ?_
              refine Q_block_exit ?_
              refine Q_then ?_
              refine K_seq ?_
              refine K_region ?_
              refine KV (R_loadO ty50 2 rfl rfl rfl rfl (fun e => by cases e) rfl) rfl ?_
              refine K_store ty50 3 rfl rfl rfl rfl rfl rfl ?_
              refine KV (R_assign rfl) rfl ?_
              refine K_nil ?_
              refine Q_then ?_
              refine K_ret ?_
              refine KQ_pubrow rfl fun HpA hpA hrowA => ?_
              refine KQ_pubrow rfl fun HpB hpB hrowB => ?_
              refine results_gen (rs := [.cell 2 62, .tmp 3]) (vs := [_, _]) rfl ⟨⟨_, _, _, _, _, _, 1, rfl, rfl, ty50, (fun e => by cases e), rfl, rfl⟩, ⟨rfl, trivial⟩⟩ ?_
              rw [if_neg (by omega), hd0]
              have hrtl := rulesTo_len hok hn5 (Nat.le_refl _)
              have hfl : (finTo d d.acc.length).length ≤ d.acc.length := subL_len _ _
              refine ⟨_, _, _, rfl, hcr.mono (hV.trans (hpA.trans hpB)), ⟨cells, hrowB.sl, hC.imp fun _ _ h => h.mono (hpA.trans hpB)⟩, ⟨hrowA.sl.mono hpB, ?_⟩, by simp only [i64ok, ntaM]; omega, ?_, ?_, ?_⟩
              · intro x hx
                obtain ⟨k, hk, rfl⟩ := List.mem_map.1 hx
                have := List.mem_range.1 (List.mem_filter.1 hk).1
                simp only [i64ok]; omega
              · show d.ranks.length ≤ _; omega
              · show (rulesTo d d.ranks.length).length ≤ _; omega
              · show (finTo d d.acc.length).length ≤ _; omega
end Go.Proofs.X

namespace Go.Proofs.X
open Go Pal Go.Proofs
attribute [local irreducible] Pal.KO Pal.KC Pal.KQ Pal.KD
theorem c2071 : callable Tryz.prog F2071 = true := by kernel_rfl
theorem c2089 : callable Tryz.prog F2089 = true := by kernel_rfl
theorem isNaN_spec (x : Int) (H : View) : Sat Tryz.prog F2089 #[.int .i64 x] H (fun r _ => r = .bool false) := by
  refine enterO (n := 6) (args := [.int .i64 x]) Tryz.func141 rfl rfl rfl fun w0 => ?_
  refine K_seq ?_
  refine K_region ?_
  refine KV (R_assign rfl) rfl ?_
  refine K_nil ?_
  refine Q_then ?_
  refine K_seq ?_
  refine K_region ?_
  refine KV (R_move rfl) rfl ?_
  refine KV (R_move rfl) rfl ?_
  refine KV (R_cmp rfl rfl rfl) rfl ?_
  refine KV (R_assign rfl) rfl ?_
  refine K_nil ?_
  refine Q_then ?_
  refine K_ret ?_
  refine results_gen (rs := [.tmp 2]) (vs := [_]) rfl ⟨rfl, trivial⟩ ?_
  simp [tupV]

theorem ccmp_spec (x y : Int) (H : View) : Sat Tryz.prog F2071 #[.int .i64 x, .int .i64 y] H (fun r _ => r = .int .i64 (if x < y then -1 else if y < x then 1 else 0)) := by
  refine enterO (n := 20) (args := [.int .i64 x, .int .i64 y]) Tryz.func111 rfl rfl rfl fun w0 => ?_
  refine K_seq ?_
  refine K_region ?_
  refine KV (R_assign rfl) rfl ?_
  refine K_nil ?_
  refine Q_then ?_
  refine K_seq ?_
  refine K_region ?_
  refine KV (R_move rfl) rfl ?_
  refine K_call c2089 rfl rfl (isNaN_spec x H) ?_
  rintro _ V1 hv1 rfl
  refine KV (R_assign rfl) rfl ?_
  refine K_nil ?_
  refine Q_then ?_
  refine K_seq ?_
  refine K_region ?_
  refine KV (R_move rfl) rfl ?_
  refine K_call c2089 rfl rfl (isNaN_spec y V1) ?_
  rintro _ V2 hv2 rfl
  refine KV (R_assign rfl) rfl ?_
  refine K_nil ?_
  refine Q_then ?_
  refine K_seq ?_
  refine K_seq ?_
  refine K_region ?_
  refine KV (R_move rfl) rfl ?_
  refine K_nil ?_
  refine Q_then ?_
  refine K_ifB rfl (fun h11 => ?_) (fun h11 => ?_)
  ·
    cases h11
  ·
    refine K_skip ?_
    refine Q_then ?_
    refine K_seq ?_
    refine K_seq ?_
    refine K_region ?_
    refine KV (R_move rfl) rfl ?_
    refine K_nil ?_
    refine Q_then ?_
    refine K_ifB rfl (fun h13 => ?_) (fun h13 => ?_)
    ·
      cases h13
    ·
      refine K_skip ?_
      refine Q_then ?_
      refine K_seq ?_
      refine K_seq ?_
      refine K_region ?_
      refine KV (R_move rfl) rfl ?_
      refine KV (R_move rfl) rfl ?_
      refine KV (R_cmp rfl rfl rfl) rfl ?_
      refine K_nil ?_
      refine Q_then ?_
      refine K_if rfl (fun h16 => ?_) (fun h16 => ?_)
      ·
        refine K_seq ?_
        refine K_region ?_
        refine KV (R_assign rfl) rfl ?_
        refine K_nil ?_
        refine Q_then ?_
        refine K_ret ?_
        refine Q_then_ret ?_
        refine results_gen (rs := [.tmp 4]) (vs := [_]) rfl ⟨rfl, trivial⟩ ?_
        rw [if_pos h16]; rfl
      ·
        refine K_skip ?_
        refine Q_then ?_
        refine K_seq ?_
        refine K_seq ?_
        refine K_region ?_
        refine KV (R_move rfl) rfl ?_
        refine KV (R_move rfl) rfl ?_
        refine KV (R_cmp rfl rfl rfl) rfl ?_
        refine K_nil ?_
        refine Q_then ?_
        refine K_if rfl (fun h19 => ?_) (fun h19 => ?_)
        ·
          refine K_seq ?_
          refine K_region ?_
          refine KV (R_assign rfl) rfl ?_
          refine K_nil ?_
          refine Q_then ?_
          refine K_ret ?_
          refine Q_then_ret ?_
          refine results_gen (rs := [.tmp 4]) (vs := [_]) rfl ⟨rfl, trivial⟩ ?_
          rw [if_neg h16, if_pos (by omega)]; rfl
        ·
          refine K_skip ?_
          refine Q_then ?_
          refine K_seq ?_
          refine K_region ?_
          refine KV (R_assign rfl) rfl ?_
          refine K_nil ?_
          refine Q_then ?_
          refine K_ret ?_
          refine results_gen (rs := [.tmp 4]) (vs := [_]) rfl ⟨rfl, trivial⟩ ?_
          rw [if_neg h16, if_neg (by omega)]; rfl

theorem compareI_spec (xs ys : List Int) (v w : Value) (H : View) (hv : SI H v xs) (hw : SI H w ys) (hx : xs.length ≤ 1099511627776) (hy : ys.length ≤ 1099511627776) : Sat Tryz.prog F2044 #[v, w] H (fun r _ => r = .int .i64 (cmpL xs ys)) := by
  obtain ⟨xa, xcp, rfl⟩ := hv.shape
  obtain ⟨ya, ycp, rfl⟩ := hw.shape
  refine enterO (n := 36) (args := [.slice xa xs.length xcp, .slice ya ys.length ycp]) Tryz.func158 rfl rfl rfl fun w0 => ?_
  refine K_seq ?_
  refine K_region ?_
  refine KV (R_assign rfl) rfl ?_
  refine K_nil ?_
  refine Q_then ?_
  refine K_seq ?_
  refine K_seq ?_
  refine K_region ?_
  refine KV (R_move rfl) rfl ?_
  refine KV (R_len sl25 rfl) rfl ?_
  refine KV (R_move rfl) rfl ?_
  refine K_nil ?_
  refine Q_then ?_
  refine K_block ?_
  refine K_loopD (G := Nat × View) [4, 5, 6, 7, 8, 11, 12, 13, 14, 15, 16, 17, 18, 19, 20, 21, 22, 23, 24, 25, 26, 27, 28, 29, 30] (fun g => [(11, .int .i64 (g.1 : Int))]) (fun hl g => hl) (fun g => g.2) (fun g => (g.1 ≤ xs.length) ∧ (g.1 ≤ ys.length) ∧ (VLe H g.2) ∧ (cmpL xs ys = cmpL (xs.drop g.1) (ys.drop g.1))) (fun g => xs.length - g.1) (0, H) ⟨Nat.zero_le _, Nat.zero_le _, VLe.refl _, rfl⟩ ⟨rfl, trivial⟩ (by simp only [args0, Nat.reduceAdd, del, memN, beqN, Nat.reduceBEq, cond_true, cond_false]; rfl) rfl rfl ?_
  rintro ⟨k, V⟩ ⟨hk1, hk2, hV, hc⟩
  dsimp only at hk1 hk2 hV hc
  dsimp only [List.set, List.cons_append, List.nil_append]
  refine K_seq ?_
  refine K_region ?_
  refine KV (R_cmp rfl rfl rfl) rfl ?_
  refine K_nil ?_
  refine Q_then ?_
  refine K_seq ?_
  refine K_if rfl (fun h12 => ?_) (fun h12 => ?_)
  ·
    have hx1 : k < xs.length := by omega
    obtain ⟨xb, xo, hxe, hxa⟩ := (hv.mono hV).get hx1
    cases hxe
    refine K_skip ?_
    refine Q_then ?_
    refine K_seq ?_
    refine K_block ?_
    refine K_seq ?_
    refine K_region ?_
    refine KV (R_move rfl) rfl ?_
    refine KV (R_indexN sl25 ty3 rfl rfl (by omega)) rfl ?_
    refine KV (R_loadH ty3 rfl (hxa) rfl (fun _ => rfl) rfl) rfl ?_
    refine KV (R_assign rfl) rfl ?_
    refine KV (R_assign rfl) rfl ?_
    refine K_nil ?_
    refine Q_then ?_
    refine K_seq ?_
    refine K_seq ?_
    refine K_region ?_
    refine KV (R_move rfl) rfl ?_
    refine KV (R_move rfl) rfl ?_
    refine KV (R_len sl25 rfl) rfl ?_
    refine KV (R_cmp rfl rfl rfl) rfl ?_
    refine K_nil ?_
    refine Q_then ?_
    refine K_if rfl (fun h19 => ?_) (fun h19 => ?_)
    ·
      have hend := cmpL_end hk1 hk2 (.inr (by omega))
      refine K_seq ?_
      refine K_region ?_
      refine KV (R_assign rfl) rfl ?_
      refine K_nil ?_
      refine Q_then ?_
      refine K_ret ?_
      refine Q_then_ret ?_
      refine Q_block_ret ?_
      refine Q_then_ret ?_
      refine Q_then_ret ?_
      refine Q_block_ret ?_
      refine Q_then_ret ?_
      refine results_gen (rs := [.tmp 4]) (vs := [_]) rfl ⟨rfl, trivial⟩ ?_
      rw [hc, hend, if_neg (by omega), if_pos (by omega)]; rfl
    ·
      have hy1 : k < ys.length := by omega
      obtain ⟨yb, yo, hye, hya⟩ := (hw.mono hV).get hy1
      cases hye
      have hcx : cmpL (xs.drop k) (ys.drop k) = if xs[k] < ys[k] then -1 else if ys[k] < xs[k] then 1 else cmpL (xs.drop (k + 1)) (ys.drop (k + 1)) := by
        rw [List.drop_eq_getElem_cons hx1, List.drop_eq_getElem_cons hy1]; rfl
      refine K_skip ?_
      refine Q_then ?_
      refine K_seq ?_
      refine K_region ?_
      refine KV (R_move rfl) rfl ?_
      refine KV (R_move rfl) rfl ?_
      refine KV (R_indexN sl25 ty3 rfl rfl (by omega)) rfl ?_
      refine KV (R_loadH ty3 rfl (hya) rfl (fun _ => rfl) rfl) rfl ?_
      refine KV (R_assign rfl) rfl ?_
      refine K_nil ?_
      refine Q_then ?_
      refine K_seq ?_
      refine K_region ?_
      refine KV (R_move rfl) rfl ?_
      refine KV (R_move rfl) rfl ?_
      refine K_call c2071 rfl rfl (ccmp_spec xs[k] ys[k] V) ?_
      rintro _ V1 hv1 rfl
      refine KV (R_assign rfl) rfl ?_
      refine K_nil ?_
      refine Q_then ?_
      refine K_seq ?_
      refine K_region ?_
      refine KV (R_move rfl) rfl ?_
      refine KV (R_cmp rfl rfl rfl) rfl ?_
      refine K_nil ?_
      refine Q_then ?_
      refine K_if rfl (fun h28 => ?_) (fun h28 => ?_)
      ·
        refine K_seq ?_
        refine K_region ?_
        refine KV (R_move rfl) rfl ?_
        refine KV (R_assign rfl) rfl ?_
        refine K_nil ?_
        refine Q_then ?_
        refine K_ret ?_
        refine Q_block_ret ?_
        refine Q_then_ret ?_
        refine Q_then_ret ?_
        refine Q_block_ret ?_
        refine Q_then_ret ?_
        refine results_gen (rs := [.tmp 4]) (vs := [_]) rfl ⟨rfl, trivial⟩ ?_
        rw [hc, hcx]
        by_cases a1 : xs[k] < ys[k]
        · rw [if_pos a1, if_pos a1]; rfl
        · by_cases a2 : ys[k] < xs[k]
          · rw [if_neg a1, if_neg a1, if_pos a2, if_pos a2]; rfl
          · rw [if_neg a1, if_neg a2] at h28; exact absurd rfl h28
      ·
        have hn1 : ¬ xs[k] < ys[k] := by intro h; rw [if_pos h] at h28; exact h28 (by decide)
        have hn2 : ¬ ys[k] < xs[k] := by intro h; rw [if_neg hn1, if_pos h] at h28; exact h28 (by decide)
        refine K_skip ?_
        refine Q_block ?_
        refine Q_then ?_
        refine K_region ?_
        refine KV (R_add rfl rfl (by omega)) rfl ?_
        refine KV (R_move rfl) rfl ?_
        refine K_nil ?_
        refine Q_nextD (k + 1, V1) ⟨hx1, hy1, hV.trans hv1, by rw [hc, hcx, if_neg hn1, if_neg hn2]⟩ (by (try dsimp only); omega) ⟨rfl, trivial⟩ rfl rfl rfl
  ·
    have hend := cmpL_end hk1 hk2 (.inl (by omega))
    refine K_exit ?_
    refine Q_then_exit ?_
    refine Q_then_exit ?_
    refine Q_block_exit ?_
    refine Q_then ?_
    refine K_seq ?_
    refine K_seq ?_
    refine K_region ?_
    refine KV (R_move rfl) rfl ?_
    refine KV (R_len sl25 rfl) rfl ?_
    refine KV (R_move rfl) rfl ?_
    refine KV (R_len sl25 rfl) rfl ?_
    refine KV (R_cmp rfl rfl rfl) rfl ?_
    refine K_nil ?_
    refine Q_then ?_
    refine K_if rfl (fun h35 => ?_) (fun h35 => ?_)
    ·
      refine K_seq ?_
      refine K_region ?_
      refine KV (R_assign rfl) rfl ?_
      refine K_nil ?_
      refine Q_then ?_
      refine K_ret ?_
      refine Q_then_ret ?_
      refine results_gen (rs := [.tmp 4]) (vs := [_]) rfl ⟨rfl, trivial⟩ ?_
      rw [hc, hend, if_pos (by omega)]; rfl
    ·
      refine K_skip ?_
      refine Q_then ?_
      refine K_seq ?_
      refine K_region ?_
      refine KV (R_assign rfl) rfl ?_
      refine K_nil ?_
      refine Q_then ?_
      refine K_ret ?_
      refine results_gen (rs := [.tmp 4]) (vs := [_]) rfl ⟨rfl, trivial⟩ ?_
      rw [hc, hend, if_neg (by omega), if_neg (by omega)]; rfl
end Go.Proofs.X

namespace Go.Proofs.X
open Go Pal Go.Proofs
attribute [local irreducible] Pal.KO Pal.KC Pal.KQ Pal.KD
end Go.Proofs.X

namespace Go.Proofs.X
open Go Pal Go.Proofs
attribute [local irreducible] Pal.KO Pal.KC Pal.KQ Pal.KD
end Go.Proofs.X

namespace Go.Proofs.X
open Go Pal Go.Proofs
attribute [local irreducible] Pal.KO Pal.KC Pal.KQ Pal.KD
end Go.Proofs.X

namespace Go.Proofs.X
open Go Pal Go.Proofs
attribute [local irreducible] Pal.KO Pal.KC Pal.KQ Pal.KD
end Go.Proofs.X

namespace Go.Proofs.X
open Go Pal Go.Proofs
attribute [local irreducible] Pal.KO Pal.KC Pal.KQ Pal.KD
end Go.Proofs.X

namespace Go.Proofs.X
open Go Pal Go.Proofs
attribute [local irreducible] Pal.KO Pal.KC Pal.KQ Pal.KD
theorem c2044 : callable Tryz.prog F2044 = true := by kernel_rfl
theorem c2076 : callable Tryz.prog F2076 = true := by kernel_rfl
theorem or_spec (xs : List Int) (b : Nat) (H : View) (hl : xs.length ≤ 1099511627776) : SatO Tryz.prog F2076 #[slc xs.length b] H [blk b (.cells (ints xs).toArray T3 (0, 0))] (fun r _ q => q = [] ∧ r = .int .i64 ((xs.find? fun x => decide (x ≠ 0)).getD 0)) := by
  refine enterO (n := 18) (args := [slc xs.length b]) Tryz.func110 rfl rfl rfl fun w0 => ?_
  refine K_seq ?_
  refine K_region ?_
  refine KV (R_assign rfl) rfl ?_
  refine K_nil ?_
  refine Q_then ?_
  refine K_seq ?_
  refine K_region ?_
  refine KV (R_assign rfl) rfl ?_
  refine K_nil ?_
  refine Q_then ?_
  refine K_seq ?_
  refine K_seq ?_
  refine K_region ?_
  refine KV (R_move rfl) rfl ?_
  refine KV (R_len sl25 rfl) rfl ?_
  refine KV (R_move rfl) rfl ?_
  refine K_nil ?_
  refine Q_then ?_
  refine K_block ?_
  refine K_loopD (G := Nat) [2, 5, 8, 9, 10, 11, 12, 13, 14, 15, 16] (fun g => [(8, .int .i64 (g : Int))]) (fun hl g => hl) (fun g => H) (fun g => (g ≤ xs.length) ∧ (xs.find? (fun x => decide (x ≠ 0)) = (xs.drop g).find? fun x => decide (x ≠ 0))) (fun g => xs.length - g) (0 : Nat) ⟨Nat.zero_le _, rfl⟩ ⟨rfl, trivial⟩ (by simp only [args0, Nat.reduceAdd, del, memN, beqN, Nat.reduceBEq, cond_true, cond_false]; rfl) rfl rfl ?_
  rintro k ⟨hk, hc⟩
  try dsimp only at hk
  try dsimp only at hc
  dsimp only [List.set, List.cons_append, List.nil_append]
  refine K_seq ?_
  refine K_region ?_
  refine KV (R_cmp rfl rfl rfl) rfl ?_
  refine K_nil ?_
  refine Q_then ?_
  refine K_seq ?_
  refine K_if rfl (fun h9 => ?_) (fun h9 => ?_)
  ·
    have hk' : k < xs.length := by omega
    refine K_skip ?_
    refine Q_then ?_
    refine K_seq ?_
    refine K_block ?_
    refine K_seq ?_
    refine K_region ?_
    refine KV (R_indexN sl25 ty3 rfl rfl (by omega)) rfl ?_
    refine KV (R_loadC ty3 0 rfl rfl (by simp [ints, hk'] : ((ints xs).toArray)[(0 + k * 1)]? = some (.int .i64 xs[k]))) rfl ?_
    refine KV (R_assign rfl) rfl ?_
    refine K_nil ?_
    refine Q_then ?_
    refine K_seq ?_
    refine K_region ?_
    refine KV (R_move rfl) rfl ?_
    refine KV (R_move rfl) rfl ?_
    refine KV (R_cmp rfl rfl rfl) rfl ?_
    refine K_nil ?_
    refine Q_then ?_
    refine K_if rfl (fun h14 => ?_) (fun h14 => ?_)
    ·
      refine K_seq ?_
      refine K_region ?_
      refine KV (R_move rfl) rfl ?_
      refine KV (R_assign rfl) rfl ?_
      refine K_nil ?_
      refine Q_then ?_
      refine K_ret ?_
      refine Q_block_ret ?_
      refine Q_then_ret ?_
      refine Q_then_ret ?_
      refine Q_block_ret ?_
      refine Q_then_ret ?_
      refine results_sel [] rfl (rs := [.tmp 2]) (vs := [_]) rfl ⟨rfl, trivial⟩ ?_
      rw [hc, List.drop_eq_getElem_cons hk', List.find?_cons_of_pos (by simpa using h14)]
      exact ⟨rfl, rfl⟩
    ·
      have hc2 : xs.find? (fun x => decide (x ≠ 0)) = (xs.drop (k + 1)).find? fun x => decide (x ≠ 0) := by
        rw [hc, List.drop_eq_getElem_cons hk', List.find?_cons_of_neg (by simpa using h14)]
      refine K_skip ?_
      refine Q_block ?_
      refine Q_then ?_
      refine K_region ?_
      refine KV (R_add rfl rfl (by omega)) rfl ?_
      refine KV (R_move rfl) rfl ?_
      refine K_nil ?_
      refine Q_nextD ((k + 1)) ⟨hk', hc2⟩ (by (try dsimp only); omega) ⟨rfl, trivial⟩ rfl rfl rfl
  ·
    have hk' : k = xs.length := by omega
    refine K_exit ?_
    refine Q_then_exit ?_
    refine Q_then_exit ?_
    refine Q_block_exit ?_
    refine Q_then ?_
    refine K_seq ?_
    refine K_region ?_
    refine KV (R_move rfl) rfl ?_
    refine KV (R_assign rfl) rfl ?_
    refine K_nil ?_
    refine Q_then ?_
    refine K_ret ?_
    refine results_sel [] rfl (rs := [.tmp 2]) (vs := [_]) rfl ⟨rfl, trivial⟩ ?_
    rw [hc, hk', List.drop_length]
    exact ⟨rfl, rfl⟩

theorem order_spec (r s : Rl) (a a2 : Option Addr) (cp cp2 : Nat) (H : View) (hr : SI H (.slice a r.args.length cp) r.args) (hs : SI H (.slice a2 s.args.length cp2) s.args) (hrl : r.args.length ≤ 1099511627776) (hsl : s.args.length ≤ 1099511627776) :
    Sat Tryz.prog F2050 #[.agg #[.int .i64 r.sym, .slice a r.args.length cp, .int .i64 r.to], .agg #[.int .i64 s.sym, .slice a2 s.args.length cp2, .int .i64 s.to]] H (fun v _ => v = .int .i64 (ordR r s)) := by
  refine enterO (n := 22) (args := [.agg #[.int .i64 r.sym, .slice a r.args.length cp, .int .i64 r.to], .agg #[.int .i64 s.sym, .slice a2 s.args.length cp2, .int .i64 s.to]]) Tryz.func123 rfl rfl rfl fun w0 => ?_
  refine K_seq ?_
  refine K_region ?_
  refine KA (A_box rfl) rfl fun b2 => ?_
  refine KA (A_box rfl) rfl fun b3 => ?_
  refine KV (R_assign rfl) rfl ?_
  refine K_nil ?_
  refine Q_then ?_
  refine K_seq ?_
  refine K_regionD (fin := false) (R := [0, 1, 2, 3, 5, 6, 7, 8, 10, 11, 12, 13, 4, 9, 14, 15, 16, 17]) (by kernel_rfl) mixed (.cons_cons _ (.cons_cons _ (List.nil_sublist _))) ?_
  refine D_val rfl rfl rfl (R_fieldAddr 0 fd85_0 rfl) ?_
  refine D_val rfl rfl rfl (R_loadO ty3 1 rfl rfl rfl rfl (fun _ => rfl) rfl) ?_
  refine D_val rfl rfl rfl (R_fieldAddr 0 fd85_0 rfl) ?_
  refine D_val rfl rfl rfl (R_loadO ty3 0 rfl rfl rfl rfl (fun _ => rfl) rfl) ?_
  refine D_val rfl rfl rfl (R_fieldAddr 1 fd85_1 rfl) ?_
  refine D_val rfl rfl rfl (R_loadO ty25 1 rfl rfl rfl rfl (fun _ => rfl) rfl) ?_
  refine D_val rfl rfl rfl (R_fieldAddr 1 fd85_1 rfl) ?_
  refine D_val rfl rfl rfl (R_loadO ty25 0 rfl rfl rfl rfl (fun _ => rfl) rfl) ?_
  refine D_val rfl rfl rfl (R_fieldAddr 2 fd85_2 rfl) ?_
  refine D_val rfl rfl rfl (R_loadO ty3 1 rfl rfl rfl rfl (fun _ => rfl) rfl) ?_
  refine D_val rfl rfl rfl (R_fieldAddr 2 fd85_2 rfl) ?_
  refine D_val rfl rfl rfl (R_loadO ty3 0 rfl rfl rfl rfl (fun _ => rfl) rfl) ?_
  refine D_call rfl rfl c2071 rfl ⟨⟨0, rfl⟩, ⟨1, rfl⟩, trivial⟩ (ccmp_spec r.sym s.sym H) ?_
  rintro _ V1 hv1 rfl
  refine D_call rfl rfl c2044 rfl ⟨⟨0, rfl⟩, ⟨1, rfl⟩, trivial⟩ (compareI_spec r.args s.args _ _ V1 (hr.mono hv1) (hs.mono hv1) hrl hsl) ?_
  rintro _ V2 hv2 rfl
  refine D_call rfl rfl c2071 rfl ⟨⟨0, rfl⟩, ⟨1, rfl⟩, trivial⟩ (ccmp_spec r.to s.to V2) ?_
  rintro _ V3 hv3 rfl
  refine D_alloc rfl rfl rfl (A_buildSlice (vs := [.int .i64 (if r.sym < s.sym then -1 else if s.sym < r.sym then 1 else 0), .int .i64 (cmpL r.args s.args), .int .i64 (if r.to < s.to then -1 else if s.to < r.to then 1 else 0)]) sl25 ty3 z3 rfl rfl (by simp [Value.cells]) (by simp) rfl (by decide)) fun b20 => ?_
  refine D_callO (first := []) [_] _ rfl rfl c2076 rfl rfl (List.Perm.refl _) ⟨⟨0, rfl⟩, ⟨1, rfl⟩, trivial⟩ (or_spec [(if r.sym < s.sym then -1 else if s.sym < r.sym then 1 else 0), cmpL r.args s.args, (if r.to < s.to then -1 else if s.to < r.to then 1 else 0)] b20 V3 (by simp)) ?_
  rintro _ V4 q hle4 ⟨rfl, rfl⟩
  dsimp only [List.nil_append]
  refine D_val rfl rfl rfl (R_assign rfl) ?_
  refine D_done ?_
  refine Q_then ?_
  refine K_ret ?_
  refine results_gen (rs := [.tmp 4]) (vs := [_]) rfl ⟨rfl, trivial⟩ ?_
  refine congrArg (Value.int .i64) ?_
  unfold ordR
  by_cases h1 : r.sym < s.sym
  · simp [h1]
  · by_cases h2 : s.sym < r.sym
    · simp [h1, h2]
    · by_cases h3 : cmpL r.args s.args = 0
      · by_cases h4 : r.to < s.to
        · simp [h1, h2, h3, h4]
        · by_cases h5 : s.to < r.to
          · simp [h1, h2, h3, h4, h5]
          · simp [h1, h2, h3, h4, h5]
      · simp [h1, h2, h3]
end Go.Proofs.X

namespace Go.Proofs.X
open Go Pal Go.Proofs
attribute [local irreducible] Pal.KO Pal.KC Pal.KQ Pal.KD

theorem compactR1_spec (ps : List (Rl × Value)) (gb cap : Nat) (tail : List Value) (H : View) (gf : Nat) (hct : callable Tryz.prog gf = true) (hps : ∀ p ∈ ps, RVok H p) (heq : ∀ H2 p q, VLe H H2 → RVok H2 p → RVok H2 q → Sat Tryz.prog gf ([] ++ [Value.agg (cellRV p).toArray, .agg (cellRV q).toArray] ++ []).toArray H2 (fun r _ => r = .bool (eqP p q))) (hl : ps.length ≤ 1099511627776) (hc : ps.length ≤ cap) (hcm : cap ≤ maxLen) (hcl : (ps.flatMap cellRV ++ tail).length = cap * 3) :
    SatO Tryz.prog F2073 #[.slice (some ⟨gb, 0, none⟩) ps.length cap, .func (.func gf) #[] #[]] H [blk gb (.cells (ps.flatMap cellRV ++ tail).toArray T85 (0, 0))] (fun r _ q => ∃ a cap, r = .slice a (compF eqP none ps).length cap ∧ q = [row r T85 3 (compF eqP none ps).length ((compF eqP none ps).flatMap cellRV)]) := by
  have hpl := flat_len cellRV_len ps
  refine enterO (n := 66) (args := [.slice (some ⟨gb, 0, none⟩) ps.length cap, .func (.func gf) #[] #[]]) Tryz.func124 rfl rfl rfl fun w0 => ?_
  refine K_seq ?_
  refine K_region ?_
  refine KV (R_assign rfl) rfl ?_
  refine K_nil ?_
  refine Q_then ?_
  refine K_seq ?_
  refine K_seq ?_
  refine K_region ?_
  refine KV (R_move rfl) rfl ?_
  refine KV (R_len sl48 rfl) rfl ?_
  refine KV (R_cmp rfl rfl rfl) rfl ?_
  refine K_nil ?_
  refine Q_then ?_
  refine K_if rfl (fun h0 => ?_) (fun h0 => ?_)
  ·
    have hsh : ps.length < 2 := by omega
    refine K_seq ?_
    refine K_region ?_
    refine KV (R_move rfl) rfl ?_
    refine KV (R_assign rfl) rfl ?_
    refine K_nil ?_
    refine Q_then ?_
    refine K_ret ?_
    refine Q_then_ret ?_
    refine KQ_shutRow (sz := 3) (k := ps.length) hc hcm hpl (by simpa using hcl) (by simpa using flat_take cellRV_len ps tail (Nat.le_refl _)) ?_
    refine results_sel [0] rfl (rs := [.tmp 4]) (vs := [_]) rfl ⟨rfl, trivial⟩ ?_
    have e := compF_all (eq := eqP) (xs := ps) (k := ps.length) (Nat.le_refl _) (fun j h h1 h2 => by omega)
    rw [List.take_length] at e
    rw [e]
    exact ⟨_, _, rfl, rfl⟩
  ·
    have hsh : 2 ≤ ps.length := by omega
    refine K_skip ?_
    refine Q_then ?_
    refine K_seq ?_
    refine K_seq ?_
    refine K_region ?_
    refine KV (R_assign rfl) rfl ?_
    refine K_nil ?_
    refine Q_then ?_
    refine K_block ?_
    refine K_loopD (G := Nat × View) [4, 5, 6, 7, 12, 13, 14, 15, 16, 17, 18, 19, 20, 21, 22, 23, 24, 25, 26, 27, 28, 29, 30, 31, 32, 33, 34, 35, 36, 37, 38, 39, 40, 41, 42, 43, 44, 45, 46, 47, 48, 49, 50, 51, 52, 53, 54, 55, 56, 57, 58, 59, 60, 61, 62, 63, 64] (fun g => [(5, .int .i64 (g.1 : Int))]) (fun hl g => hl) (fun g => g.2) (fun g => (1 ≤ g.1) ∧ (g.1 ≤ ps.length) ∧ (VLe H g.2) ∧ (∀ j (h : j < ps.length), 0 < j → j < g.1 → eqP ps[j] ps[j - 1] = false)) (fun g => ps.length - g.1) (1, H) ⟨Nat.le_refl _, by omega, VLe.refl _, fun j h h1 h2 => by omega⟩ ⟨rfl, trivial⟩ (by simp only [args0, Nat.reduceAdd, del, memN, beqN, Nat.reduceBEq, cond_true, cond_false]; rfl) rfl rfl ?_
    rintro ⟨k, V⟩ ⟨hk1, hk, hV, hall⟩
    dsimp only at hk1 hk hV hall
    dsimp only [List.set, List.cons_append, List.nil_append]
    refine K_seq ?_
    refine K_seq ?_
    refine K_region ?_
    refine KV (R_move rfl) rfl ?_
    refine KV (R_move rfl) rfl ?_
    refine KV (R_len sl48 rfl) rfl ?_
    refine KV (R_cmp rfl rfl rfl) rfl ?_
    refine K_nil ?_
    refine Q_then ?_
    refine K_if rfl (fun h1 => ?_) (fun h1 => ?_)
    ·
      have hk' : k < ps.length := by omega
      refine K_skip ?_
      refine Q_then ?_
      refine K_seq ?_
      refine K_block ?_
      refine K_seq ?_
      refine K_regionD (fin := false) (R := [0, 1, 2, 3, 4, 5, 6, 7, 8, 9, 10]) (by kernel_rfl) mixed (.cons_cons _ (List.nil_sublist _)) ?_
      refine D_val rfl rfl rfl (R_move rfl) ?_
      refine D_val rfl rfl rfl (R_move rfl) ?_
      refine D_val rfl rfl rfl (R_move rfl) ?_
      refine D_val rfl rfl rfl (R_indexN sl48 ty85 rfl rfl (by omega)) ?_
      refine D_val rfl rfl rfl (R_loadO ty85 0 rfl rfl (flat_get cellRV_len ps tail (i := k) (by omega) (by omega)) rfl (fun e => by cases e) rfl) ?_
      refine D_val rfl rfl rfl (R_move rfl) ?_
      refine D_val rfl rfl rfl (R_move rfl) ?_
      refine D_val rfl rfl rfl (R_sub rfl rfl (by omega)) ?_
      refine D_val rfl rfl rfl (R_index sl48 ty85 rfl rfl ⟨by omega, by omega⟩) ?_
      refine D_val rfl rfl rfl (R_loadO ty85 0 rfl rfl (flat_get cellRV_len ps tail (i := k - 1) (by omega) (by omega)) rfl (fun e => by cases e) rfl) ?_
      refine D_callV rfl rfl hct rfl rfl ⟨⟨0, rfl⟩, trivial⟩ (heq V ps[k] ps[k - 1] (hV) ((hps _ (List.getElem_mem (by omega))).mono (hV)) ((hps _ (List.getElem_mem (by omega))).mono (hV))) ?_
      rintro _ V1 hvV1 rfl
      refine D_done ?_
      refine Q_then ?_
      refine K_ifB rfl (fun heq1 => ?_) (fun heq1 => ?_)
      ·
        refine K_seq ?_
        refine K_region ?_
        refine KV (R_move rfl) rfl ?_
        refine KV (R_move rfl) rfl ?_
        refine KV (R_sliceLoE (m := k) sl48 ty85 rfl rfl (by omega) (by omega)) rfl ?_
        refine KV (R_assign rfl) rfl ?_
        refine K_nil ?_
        refine Q_then ?_
        refine K_seq ?_
        refine K_seq ?_
        refine K_region ?_
        refine KV (R_assign rfl) rfl ?_
        refine K_nil ?_
        refine Q_then ?_
        refine K_block ?_
        refine K_loopD (G := Nat × Nat × (List (Rl × Value)) × View) [5, 7, 32, 33, 34, 35, 36, 37, 38, 39, 40, 41, 42, 43, 44, 45, 46, 47, 48, 49, 50, 51, 52, 53, 54, 55, 56, 57, 58] (fun g => [(7, .int .i64 (g.1 : Int)), (5, .int .i64 (g.2.1 : Int))]) (fun hl g => (hl.set 0 (blk gb (.cells (g.2.2.1.flatMap cellRV ++ tail).toArray T85 (0, 0))))) (fun g => g.2.2.2) (fun g => (1 ≤ g.1) ∧ (CpI eqP ps g.2.2.1 g.2.1 (k + g.1)) ∧ (VLe H g.2.2.2)) (fun g => ps.length - (k + g.1)) (1, k, ps, V1) ⟨Nat.le_refl _, CpI.start (show 0 < k by omega) hk' hall heq1, hV.trans hvV1⟩ ⟨rfl, rfl, trivial⟩ (by simp only [args0, Nat.reduceAdd, del, memN, beqN, Nat.reduceBEq, cond_true, cond_false]; rfl) rfl rfl ?_
        rintro ⟨rr, wr, its, V2⟩ ⟨hr1, hcp, hV2⟩
        dsimp only at hr1 hcp hV2
        dsimp only [List.set, List.cons_append, List.nil_append]
        have hcpl := hcp.len
        have hcpw := hcp.wm
        have hcpm := hcp.mn
        have hBs : ((its.flatMap cellRV ++ tail).toArray).size = cap * 3 := by
          rw [List.size_toArray, List.length_append, flat_len cellRV_len, hcp.len]
          rw [List.length_append, flat_len cellRV_len] at hcl
          exact hcl
        refine K_seq ?_
        refine K_seq ?_
        refine K_region ?_
        refine KV (R_move rfl) rfl ?_
        refine KV (R_move rfl) rfl ?_
        refine KV (R_len sl48 rfl) rfl ?_
        refine KV (R_cmp rfl rfl rfl) rfl ?_
        refine K_nil ?_
        refine Q_then ?_
        refine K_if rfl (fun h2 => ?_) (fun h2 => ?_)
        ·
          have hr' : k + rr < ps.length := by omega
          refine K_skip ?_
          refine Q_then ?_
          refine K_seq ?_
          refine K_block ?_
          refine K_seq ?_
          refine K_regionD (fin := false) (R := [0, 1, 2, 3, 4, 5, 6, 7, 8, 9, 10, 11]) (by kernel_rfl) mixed (.cons_cons _ (List.nil_sublist _)) ?_
          refine D_val rfl rfl rfl (R_move rfl) ?_
          refine D_val rfl rfl rfl (R_move rfl) ?_
          refine D_val rfl rfl rfl (R_move rfl) ?_
          refine D_val rfl rfl rfl (R_indexN sl48 ty85 rfl rfl (by omega)) ?_
          refine D_val rfl rfl rfl (R_loadO ty85 0 rfl rfl ((flat_get cellRV_len its tail (i := k + rr) (by omega) (by omega)).trans (congrArg cellRV (hcp.todo (k + rr) (by omega) (by omega)))) rfl (fun e => by cases e) rfl) ?_
          refine D_val rfl rfl rfl (R_move rfl) ?_
          refine D_val rfl rfl rfl (R_move rfl) ?_
          refine D_val rfl rfl rfl (R_sub rfl rfl (by omega)) ?_
          refine D_val rfl rfl rfl (R_index sl48 ty85 rfl rfl ⟨by omega, by omega⟩) ?_
          refine D_val rfl rfl rfl (R_loadO ty85 0 rfl rfl ((flat_get cellRV_len its tail (i := k + rr - 1) (by omega) (by omega)).trans (congrArg cellRV (hcp.todo (k + rr - 1) (by omega) (by omega)))) rfl (fun e => by cases e) rfl) ?_
          refine D_callV rfl rfl hct rfl rfl ⟨⟨0, rfl⟩, trivial⟩ (heq V2 ps[k + rr] ps[k + rr - 1] (hV2) ((hps _ (List.getElem_mem (by omega))).mono (hV2)) ((hps _ (List.getElem_mem (by omega))).mono (hV2))) ?_
          rintro _ V3 hvV3 rfl
          refine D_val rfl rfl rfl (R_notP rfl) ?_
          refine D_done ?_
          refine Q_then ?_
          refine K_ifB rfl (fun hne1 => ?_) (fun hne1 => ?_)
          ·
            have hd : eqP ps[k + rr] ps[k + rr - 1] = false := by simpa [eqP] using hne1
            refine K_seq ?_
            refine K_region ?_
            refine KV (R_move rfl) rfl ?_
            refine KV (R_move rfl) rfl ?_
            refine KV (R_move rfl) rfl ?_
            refine KV (R_move rfl) rfl ?_
            refine KV (R_indexN sl48 ty85 rfl rfl (by omega)) rfl ?_
            refine KV (R_loadO ty85 0 rfl rfl ((flat_get cellRV_len its tail (i := k + rr) (by omega) (by omega)).trans (congrArg cellRV (hcp.todo (k + rr) (by omega) (by omega)))) rfl (fun e => by cases e) rfl) rfl ?_
            refine KV (R_indexN sl48 ty85 rfl rfl (by omega)) rfl ?_
            refine K_storeE ty85 0 rfl rfl rfl rfl (show 0 + wr * 3 + 3 ≤ _ by rw [hBs]; omega) ((hps _ (List.getElem_mem (show k + rr < ps.length by omega))).one) (flat_put cellRV_len its tail (i := wr) (by omega) ps[k + rr] (by omega) rfl) ?_
            refine K_nil ?_
            refine Q_then ?_
            refine K_region ?_
            refine KV (R_move rfl) rfl ?_
            refine KV (R_add rfl rfl (by omega)) rfl ?_
            refine KV (R_assign rfl) rfl ?_
            refine K_nil ?_
            refine Q_block ?_
            refine Q_then ?_
            refine K_region ?_
            refine KV (R_move rfl) rfl ?_
            refine KV (R_add rfl rfl (by omega)) rfl ?_
            refine KV (R_assign rfl) rfl ?_
            refine K_nil ?_
            refine Q_nextD (rr + 1, wr + 1, its.set wr ps[k + rr], V3) ⟨by dsimp only; omega, hcp.keep hr' hd, hV2.trans hvV3⟩ (by (try dsimp only); omega) ⟨rfl, rfl, trivial⟩ rfl rfl rfl
          ·
            have hd : eqP ps[k + rr] ps[k + rr - 1] = true := by simpa [eqP] using hne1
            refine K_skip ?_
            refine Q_block ?_
            refine Q_then ?_
            refine K_region ?_
            refine KV (R_move rfl) rfl ?_
            refine KV (R_add rfl rfl (by omega)) rfl ?_
            refine KV (R_assign rfl) rfl ?_
            refine K_nil ?_
            refine Q_nextD (rr + 1, wr, its, V3) ⟨by dsimp only; omega, hcp.skip hr' hd, hV2.trans hvV3⟩ (by (try dsimp only); omega) ⟨rfl, rfl, trivial⟩ rfl rfl rfl
        ·
          have hr' : k + rr = ps.length := by omega
          refine K_exit ?_
          refine Q_then_exit ?_
          refine Q_then_exit ?_
          refine Q_block_exit ?_
          refine Q_then ?_
          refine K_seq ?_
          refine K_region ?_
          refine KV (R_move rfl) rfl ?_
          refine KV (R_move rfl) rfl ?_
          refine KV (R_sliceLoE (m := wr) sl48 ty85 rfl rfl (by omega) (by omega)) rfl ?_
          refine K_clear 0 (m := 3) sl48 z85 (by simp [Value.cells, Value.oneCell']) rfl rfl rfl (by rw [hBs]; omega) fun cur hcz hct2 => ?_
          refine K_nil ?_
          refine Q_then ?_
          refine K_seq ?_
          refine K_region ?_
          refine KV (R_move rfl) rfl ?_
          refine KV (R_move rfl) rfl ?_
          refine KV (R_sliceHiE (m := wr) sl48 ty85 rfl rfl (by omega)) rfl ?_
          refine KV (R_assign rfl) rfl ?_
          refine K_nil ?_
          refine Q_then ?_
          refine K_ret ?_
          refine Q_block_ret ?_
          refine Q_then_ret ?_
          refine Q_then_ret ?_
          refine Q_block_ret ?_
          refine Q_then_ret ?_
          have hdone := hcp.done
          rw [hr', List.take_length] at hdone
          have hwl : (its.take wr).length = wr := by rw [List.length_take]; omega
          have hits := flat_len cellRV_len its
          refine KQ_shutRow (sz := 3) (k := wr) (xs := (its.take wr).flatMap cellRV) (by omega) hcm (by rw [flat_len cellRV_len, hwl]) (by rw [hcz]; exact hBs) (by rw [show wr * 3 = 0 + wr * 3 by omega, hct2, Nat.zero_add]; exact flat_take cellRV_len its tail (by omega)) ?_
          refine results_sel [0] rfl (rs := [.tmp 4]) (vs := [_]) rfl ⟨rfl, trivial⟩ ?_
          rw [← hdone, hwl]
          exact ⟨_, _, rfl, rfl⟩
      ·
        have hall2 : ∀ j (h : j < ps.length), 0 < j → j < k + 1 → eqP ps[j] ps[j - 1] = false := by
          intro j h hj hjk
          by_cases e : j = k
          · subst e; exact heq1
          · exact hall j h hj (by omega)
        refine K_skip ?_
        refine Q_block ?_
        refine Q_then ?_
        refine K_region ?_
        refine KV (R_move rfl) rfl ?_
        refine KV (R_add rfl rfl (by omega)) rfl ?_
        refine KV (R_assign rfl) rfl ?_
        refine K_nil ?_
        refine Q_nextD (k + 1, V1) ⟨by dsimp only; omega, hk', hV.trans hvV1, hall2⟩ (by (try dsimp only); omega) ⟨rfl, trivial⟩ rfl rfl rfl
    ·
      have hk' : k = ps.length := by omega
      refine K_exit ?_
      refine Q_then_exit ?_
      refine Q_then_exit ?_
      refine Q_block_exit ?_
      refine Q_then ?_
      refine K_seq ?_
      refine K_region ?_
      refine KV (R_move rfl) rfl ?_
      refine KV (R_assign rfl) rfl ?_
      refine K_nil ?_
      refine Q_then ?_
      refine K_ret ?_
      refine KQ_shutRow (sz := 3) (k := ps.length) hc hcm hpl (by simpa using hcl) (by simpa using flat_take cellRV_len ps tail (Nat.le_refl _)) ?_
      refine results_sel [0] rfl (rs := [.tmp 4]) (vs := [_]) rfl ⟨rfl, trivial⟩ ?_
      have e := compF_all (eq := eqP) (xs := ps) (k := ps.length) (Nat.le_refl _) (fun j h h1 h2 => hall j h h1 (by omega))
      rw [List.take_length] at e
      rw [e]
      exact ⟨_, _, rfl, rfl⟩

theorem compactR0_spec (gf : Nat) (H : View) : SatO Tryz.prog F2073 #[nilS, .func (.func gf) #[] #[]] H [] (fun r _ q => r = nilS ∧ q = [row nilS T85 3 0 []]) := by
  refine enterO (n := 66) (args := [nilS, .func (.func gf) #[] #[]]) Tryz.func124 rfl rfl rfl fun w0 => ?_
  refine K_seq ?_
  refine K_region ?_
  refine KV (R_assign rfl) rfl ?_
  refine K_nil ?_
  refine Q_then ?_
  refine K_seq ?_
  refine K_seq ?_
  refine K_region ?_
  refine KV (R_move rfl) rfl ?_
  refine KV (R_len sl48 rfl) rfl ?_
  refine KV (R_cmp rfl rfl rfl) rfl ?_
  refine K_nil ?_
  refine Q_then ?_
  refine K_if rfl (fun h0 => ?_) (fun h0 => ?_)
  ·
    refine K_seq ?_
    refine K_region ?_
    refine KV (R_move rfl) rfl ?_
    refine KV (R_assign rfl) rfl ?_
    refine K_nil ?_
    refine Q_then ?_
    refine K_ret ?_
    refine Q_then_ret ?_
    refine KQ_nilrow T85 3 ?_
    refine results_gen (rs := [.tmp 4]) (vs := [_]) rfl ⟨rfl, trivial⟩ ?_
    exact ⟨rfl, rfl⟩
  ·
    exact absurd (by omega) h0

theorem compactI1_spec (ps : List (Int)) (gb cap : Nat) (tail : List Value) (H : View)  (hl : ps.length ≤ 1099511627776) (hc : ps.length ≤ cap) (hcm : cap ≤ maxLen) (hcl : (ps.flatMap cellI ++ tail).length = cap * 1) :
    SatO Tryz.prog F2075 #[.slice (some ⟨gb, 0, none⟩) ps.length cap] H [blk gb (.cells (ps.flatMap cellI ++ tail).toArray T3 (0, 0))] (fun r _ q => ∃ a cap, r = .slice a (compF eqI none ps).length cap ∧ q = [row r T3 1 (compF eqI none ps).length ((compF eqI none ps).flatMap cellI)]) := by
  have hpl := flat_len cellI_len ps
  refine enterO (n := 61) (args := [.slice (some ⟨gb, 0, none⟩) ps.length cap]) Tryz.func126 rfl rfl rfl fun w0 => ?_
  refine K_seq ?_
  refine K_region ?_
  refine KV (R_assign rfl) rfl ?_
  refine K_nil ?_
  refine Q_then ?_
  refine K_seq ?_
  refine K_seq ?_
  refine K_region ?_
  refine KV (R_move rfl) rfl ?_
  refine KV (R_len sl25 rfl) rfl ?_
  refine KV (R_cmp rfl rfl rfl) rfl ?_
  refine K_nil ?_
  refine Q_then ?_
  refine K_if rfl (fun h0 => ?_) (fun h0 => ?_)
  ·
    have hsh : ps.length < 2 := by omega
    refine K_seq ?_
    refine K_region ?_
    refine KV (R_move rfl) rfl ?_
    refine KV (R_assign rfl) rfl ?_
    refine K_nil ?_
    refine Q_then ?_
    refine K_ret ?_
    refine Q_then_ret ?_
    refine KQ_shutRow (sz := 1) (k := ps.length) hc hcm hpl (by simpa using hcl) (by simpa using flat_take cellI_len ps tail (Nat.le_refl _)) ?_
    refine results_sel [0] rfl (rs := [.tmp 2]) (vs := [_]) rfl ⟨rfl, trivial⟩ ?_
    have e := compF_all (eq := eqI) (xs := ps) (k := ps.length) (Nat.le_refl _) (fun j h h1 h2 => by omega)
    rw [List.take_length] at e
    rw [e]
    exact ⟨_, _, rfl, rfl⟩
  ·
    have hsh : 2 ≤ ps.length := by omega
    refine K_skip ?_
    refine Q_then ?_
    refine K_seq ?_
    refine K_seq ?_
    refine K_region ?_
    refine KV (R_assign rfl) rfl ?_
    refine K_nil ?_
    refine Q_then ?_
    refine K_block ?_
    refine K_loopD (G := Nat × View) [2, 3, 4, 5, 10, 11, 12, 13, 14, 15, 16, 17, 18, 19, 20, 21, 22, 23, 24, 25, 26, 27, 28, 29, 30, 31, 32, 33, 34, 35, 36, 37, 38, 39, 40, 41, 42, 43, 44, 45, 46, 47, 48, 49, 50, 51, 52, 53, 54, 55, 56, 57, 58, 59] (fun g => [(3, .int .i64 (g.1 : Int))]) (fun hl g => hl) (fun g => g.2) (fun g => (1 ≤ g.1) ∧ (g.1 ≤ ps.length) ∧ (VLe H g.2) ∧ (∀ j (h : j < ps.length), 0 < j → j < g.1 → eqI ps[j] ps[j - 1] = false)) (fun g => ps.length - g.1) (1, H) ⟨Nat.le_refl _, by omega, VLe.refl _, fun j h h1 h2 => by omega⟩ ⟨rfl, trivial⟩ (by simp only [args0, Nat.reduceAdd, del, memN, beqN, Nat.reduceBEq, cond_true, cond_false]; rfl) rfl rfl ?_
    rintro ⟨k, V⟩ ⟨hk1, hk, hV, hall⟩
    dsimp only at hk1 hk hV hall
    dsimp only [List.set, List.cons_append, List.nil_append]
    refine K_seq ?_
    refine K_seq ?_
    refine K_region ?_
    refine KV (R_move rfl) rfl ?_
    refine KV (R_move rfl) rfl ?_
    refine KV (R_len sl25 rfl) rfl ?_
    refine KV (R_cmp rfl rfl rfl) rfl ?_
    refine K_nil ?_
    refine Q_then ?_
    refine K_if rfl (fun h1 => ?_) (fun h1 => ?_)
    ·
      have hk' : k < ps.length := by omega
      refine K_skip ?_
      refine Q_then ?_
      refine K_seq ?_
      refine K_block ?_
      refine K_seq ?_
      refine K_regionD (fin := false) (R := [0, 1, 2, 3, 4, 5, 6, 7, 8, 9]) (by kernel_rfl) mixed (.cons_cons _ (List.nil_sublist _)) ?_
      refine D_val rfl rfl rfl (R_move rfl) ?_
      refine D_val rfl rfl rfl (R_move rfl) ?_
      refine D_val rfl rfl rfl (R_indexN sl25 ty3 rfl rfl (by omega)) ?_
      refine D_val rfl rfl rfl (R_loadO ty3 0 rfl rfl (flat_get cellI_len ps tail (i := k) (by omega) (by omega)) rfl (fun _ => rfl) rfl) ?_
      refine D_val rfl rfl rfl (R_move rfl) ?_
      refine D_val rfl rfl rfl (R_move rfl) ?_
      refine D_val rfl rfl rfl (R_sub rfl rfl (by omega)) ?_
      refine D_val rfl rfl rfl (R_index sl25 ty3 rfl rfl ⟨by omega, by omega⟩) ?_
      refine D_val rfl rfl rfl (R_loadO ty3 0 rfl rfl (flat_get cellI_len ps tail (i := k - 1) (by omega) (by omega)) rfl (fun _ => rfl) rfl) ?_
      refine D_val rfl rfl rfl (R_cmp rfl rfl rfl) ?_
      refine D_done ?_
      refine Q_then ?_
      refine K_if rfl (fun heq1 => ?_) (fun heq1 => ?_)
      ·
        have heq1 := decide_eq_true heq1
        refine K_seq ?_
        refine K_region ?_
        refine KV (R_move rfl) rfl ?_
        refine KV (R_move rfl) rfl ?_
        refine KV (R_sliceLoE (m := k) sl25 ty3 rfl rfl (by omega) (by omega)) rfl ?_
        refine KV (R_assign rfl) rfl ?_
        refine K_nil ?_
        refine Q_then ?_
        refine K_seq ?_
        refine K_seq ?_
        refine K_region ?_
        refine KV (R_assign rfl) rfl ?_
        refine K_nil ?_
        refine Q_then ?_
        refine K_block ?_
        refine K_loopD (G := Nat × Nat × List (Int) × View) [3, 5, 29, 30, 31, 32, 33, 34, 35, 36, 37, 38, 39, 40, 41, 42, 43, 44, 45, 46, 47, 48, 49, 50, 51, 52, 53] (fun g => [(5, .int .i64 (g.1 : Int)), (3, .int .i64 (g.2.1 : Int))]) (fun hl g => (hl.set 0 (blk gb (.cells (g.2.2.1.flatMap cellI ++ tail).toArray T3 (0, 0))))) (fun g => g.2.2.2) (fun g => (1 ≤ g.1) ∧ (CpI eqI ps g.2.2.1 g.2.1 (k + g.1)) ∧ (VLe H g.2.2.2)) (fun g => ps.length - (k + g.1)) (1, k, ps, V) ⟨Nat.le_refl _, CpI.start (show 0 < k by omega) hk' hall heq1, hV⟩ ⟨rfl, rfl, trivial⟩ (by simp only [args0, Nat.reduceAdd, del, memN, beqN, Nat.reduceBEq, cond_true, cond_false]; rfl) rfl rfl ?_
        rintro ⟨rr, wr, its, V2⟩ ⟨hr1, hcp, hV2⟩
        dsimp only at hr1 hcp hV2
        dsimp only [List.set, List.cons_append, List.nil_append]
        have hcpl := hcp.len
        have hcpw := hcp.wm
        have hcpm := hcp.mn
        have hBs : ((its.flatMap cellI ++ tail).toArray).size = cap * 1 := by
          rw [List.size_toArray, List.length_append, flat_len cellI_len, hcp.len]
          rw [List.length_append, flat_len cellI_len] at hcl
          exact hcl
        refine K_seq ?_
        refine K_seq ?_
        refine K_region ?_
        refine KV (R_move rfl) rfl ?_
        refine KV (R_move rfl) rfl ?_
        refine KV (R_len sl25 rfl) rfl ?_
        refine KV (R_cmp rfl rfl rfl) rfl ?_
        refine K_nil ?_
        refine Q_then ?_
        refine K_if rfl (fun h2 => ?_) (fun h2 => ?_)
        ·
          have hr' : k + rr < ps.length := by omega
          refine K_skip ?_
          refine Q_then ?_
          refine K_seq ?_
          refine K_block ?_
          refine K_seq ?_
          refine K_regionD (fin := false) (R := [0, 1, 2, 3, 4, 5, 6, 7, 8, 9]) (by kernel_rfl) mixed (.cons_cons _ (List.nil_sublist _)) ?_
          refine D_val rfl rfl rfl (R_move rfl) ?_
          refine D_val rfl rfl rfl (R_move rfl) ?_
          refine D_val rfl rfl rfl (R_indexN sl25 ty3 rfl rfl (by omega)) ?_
          refine D_val rfl rfl rfl (R_loadO ty3 0 rfl rfl ((flat_get cellI_len its tail (i := k + rr) (by omega) (by omega)).trans (congrArg cellI (hcp.todo (k + rr) (by omega) (by omega)))) rfl (fun _ => rfl) rfl) ?_
          refine D_val rfl rfl rfl (R_move rfl) ?_
          refine D_val rfl rfl rfl (R_move rfl) ?_
          refine D_val rfl rfl rfl (R_sub rfl rfl (by omega)) ?_
          refine D_val rfl rfl rfl (R_index sl25 ty3 rfl rfl ⟨by omega, by omega⟩) ?_
          refine D_val rfl rfl rfl (R_loadO ty3 0 rfl rfl ((flat_get cellI_len its tail (i := k + rr - 1) (by omega) (by omega)).trans (congrArg cellI (hcp.todo (k + rr - 1) (by omega) (by omega)))) rfl (fun _ => rfl) rfl) ?_
          refine D_val rfl rfl rfl (R_cmp rfl rfl rfl) ?_
          refine D_done ?_
          refine Q_then ?_
          refine K_if rfl (fun hne1 => ?_) (fun hne1 => ?_)
          ·
            have hd : eqI ps[k + rr] ps[k + rr - 1] = false := by simpa [eqI] using hne1
            refine K_seq ?_
            refine K_region ?_
            refine KV (R_move rfl) rfl ?_
            refine KV (R_move rfl) rfl ?_
            refine KV (R_move rfl) rfl ?_
            refine KV (R_move rfl) rfl ?_
            refine KV (R_indexN sl25 ty3 rfl rfl (by omega)) rfl ?_
            refine KV (R_loadO ty3 0 rfl rfl ((flat_get cellI_len its tail (i := k + rr) (by omega) (by omega)).trans (congrArg cellI (hcp.todo (k + rr) (by omega) (by omega)))) rfl (fun _ => rfl) rfl) rfl ?_
            refine KV (R_indexN sl25 ty3 rfl rfl (by omega)) rfl ?_
            refine K_storeE ty3 0 rfl rfl rfl rfl (show 0 + wr * 1 + 1 ≤ _ by rw [hBs]; omega) (rfl) (flat_put cellI_len its tail (i := wr) (by omega) ps[k + rr] (by omega) rfl) ?_
            refine K_nil ?_
            refine Q_then ?_
            refine K_region ?_
            refine KV (R_move rfl) rfl ?_
            refine KV (R_add rfl rfl (by omega)) rfl ?_
            refine KV (R_assign rfl) rfl ?_
            refine K_nil ?_
            refine Q_block ?_
            refine Q_then ?_
            refine K_region ?_
            refine KV (R_move rfl) rfl ?_
            refine KV (R_add rfl rfl (by omega)) rfl ?_
            refine KV (R_assign rfl) rfl ?_
            refine K_nil ?_
            refine Q_nextD (rr + 1, wr + 1, its.set wr ps[k + rr], V2) ⟨by dsimp only; omega, hcp.keep hr' hd, hV2⟩ (by (try dsimp only); omega) ⟨rfl, rfl, trivial⟩ rfl rfl rfl
          ·
            have hd : eqI ps[k + rr] ps[k + rr - 1] = true := by simpa [eqI] using hne1
            refine K_skip ?_
            refine Q_block ?_
            refine Q_then ?_
            refine K_region ?_
            refine KV (R_move rfl) rfl ?_
            refine KV (R_add rfl rfl (by omega)) rfl ?_
            refine KV (R_assign rfl) rfl ?_
            refine K_nil ?_
            refine Q_nextD (rr + 1, wr, its, V2) ⟨by dsimp only; omega, hcp.skip hr' hd, hV2⟩ (by (try dsimp only); omega) ⟨rfl, rfl, trivial⟩ rfl rfl rfl
        ·
          have hr' : k + rr = ps.length := by omega
          refine K_exit ?_
          refine Q_then_exit ?_
          refine Q_then_exit ?_
          refine Q_block_exit ?_
          refine Q_then ?_
          refine K_seq ?_
          refine K_region ?_
          refine KV (R_move rfl) rfl ?_
          refine KV (R_move rfl) rfl ?_
          refine KV (R_sliceLoE (m := wr) sl25 ty3 rfl rfl (by omega) (by omega)) rfl ?_
          refine K_clear 0 (m := 1) sl25 z3 (by simp [Value.cells, Value.oneCell']) rfl rfl rfl (by rw [hBs]; omega) fun cur hcz hct2 => ?_
          refine K_nil ?_
          refine Q_then ?_
          refine K_seq ?_
          refine K_region ?_
          refine KV (R_move rfl) rfl ?_
          refine KV (R_move rfl) rfl ?_
          refine KV (R_sliceHiE (m := wr) sl25 ty3 rfl rfl (by omega)) rfl ?_
          refine KV (R_assign rfl) rfl ?_
          refine K_nil ?_
          refine Q_then ?_
          refine K_ret ?_
          refine Q_block_ret ?_
          refine Q_then_ret ?_
          refine Q_then_ret ?_
          refine Q_block_ret ?_
          refine Q_then_ret ?_
          have hdone := hcp.done
          rw [hr', List.take_length] at hdone
          have hwl : (its.take wr).length = wr := by rw [List.length_take]; omega
          have hits := flat_len cellI_len its
          refine KQ_shutRow (sz := 1) (k := wr) (xs := (its.take wr).flatMap cellI) (by omega) hcm (by rw [flat_len cellI_len, hwl]) (by rw [hcz]; exact hBs) (by rw [show wr * 1 = 0 + wr * 1 by omega, hct2, Nat.zero_add]; exact flat_take cellI_len its tail (by omega)) ?_
          refine results_sel [0] rfl (rs := [.tmp 2]) (vs := [_]) rfl ⟨rfl, trivial⟩ ?_
          rw [← hdone, hwl]
          exact ⟨_, _, rfl, rfl⟩
      ·
        have heq1 := decide_eq_false heq1
        have hall2 : ∀ j (h : j < ps.length), 0 < j → j < k + 1 → eqI ps[j] ps[j - 1] = false := by
          intro j h hj hjk
          by_cases e : j = k
          · subst e; exact heq1
          · exact hall j h hj (by omega)
        refine K_skip ?_
        refine Q_block ?_
        refine Q_then ?_
        refine K_region ?_
        refine KV (R_move rfl) rfl ?_
        refine KV (R_add rfl rfl (by omega)) rfl ?_
        refine KV (R_assign rfl) rfl ?_
        refine K_nil ?_
        refine Q_nextD (k + 1, V) ⟨by dsimp only; omega, hk', hV, hall2⟩ (by (try dsimp only); omega) ⟨rfl, trivial⟩ rfl rfl rfl
    ·
      have hk' : k = ps.length := by omega
      refine K_exit ?_
      refine Q_then_exit ?_
      refine Q_then_exit ?_
      refine Q_block_exit ?_
      refine Q_then ?_
      refine K_seq ?_
      refine K_region ?_
      refine KV (R_move rfl) rfl ?_
      refine KV (R_assign rfl) rfl ?_
      refine K_nil ?_
      refine Q_then ?_
      refine K_ret ?_
      refine KQ_shutRow (sz := 1) (k := ps.length) hc hcm hpl (by simpa using hcl) (by simpa using flat_take cellI_len ps tail (Nat.le_refl _)) ?_
      refine results_sel [0] rfl (rs := [.tmp 2]) (vs := [_]) rfl ⟨rfl, trivial⟩ ?_
      have e := compF_all (eq := eqI) (xs := ps) (k := ps.length) (Nat.le_refl _) (fun j h h1 h2 => hall j h h1 (by omega))
      rw [List.take_length] at e
      rw [e]
      exact ⟨_, _, rfl, rfl⟩

theorem compactI0_spec (H : View) : SatO Tryz.prog F2075 #[nilS] H [] (fun r _ q => r = nilS ∧ q = [row nilS T3 1 0 []]) := by
  refine enterO (n := 61) (args := [nilS]) Tryz.func126 rfl rfl rfl fun w0 => ?_
  refine K_seq ?_
  refine K_region ?_
  refine KV (R_assign rfl) rfl ?_
  refine K_nil ?_
  refine Q_then ?_
  refine K_seq ?_
  refine K_seq ?_
  refine K_region ?_
  refine KV (R_move rfl) rfl ?_
  refine KV (R_len sl25 rfl) rfl ?_
  refine KV (R_cmp rfl rfl rfl) rfl ?_
  refine K_nil ?_
  refine Q_then ?_
  refine K_if rfl (fun h0 => ?_) (fun h0 => ?_)
  ·
    refine K_seq ?_
    refine K_region ?_
    refine KV (R_move rfl) rfl ?_
    refine KV (R_assign rfl) rfl ?_
    refine K_nil ?_
    refine Q_then ?_
    refine K_ret ?_
    refine Q_then_ret ?_
    refine KQ_nilrow T3 1 ?_
    refine results_gen (rs := [.tmp 2]) (vs := [_]) rfl ⟨rfl, trivial⟩ ?_
    exact ⟨rfl, rfl⟩
  ·
    exact absurd (by omega) h0

theorem compactR_spec (ps : List (Rl × Value)) (v : Value) (H : View) (gf : Nat) (hct : callable Tryz.prog gf = true) (hps : ∀ p ∈ ps, RVok H p) (heq : ∀ H2 p q, VLe H H2 → RVok H2 p → RVok H2 q → Sat Tryz.prog gf ([] ++ [Value.agg (cellRV p).toArray, .agg (cellRV q).toArray] ++ []).toArray H2 (fun r _ => r = .bool (eqP p q))) (hl : ps.length ≤ 1099511627776) :
    SatO Tryz.prog F2073 #[v, .func (.func gf) #[] #[]] H [row v T85 3 ps.length (cellsP ps)] (fun r _ q => ∃ a cap, r = .slice a (compF eqP none ps).length cap ∧ q = [row r T85 3 (compF eqP none ps).length (cellsP (compF eqP none ps))]) := by
  refine SatO.openRow (fun h1 h2 h3 => ?_) (fun gb cap tail h1 h2 h3 h4 h5 => ?_)
  · have : ps = [] := List.eq_nil_of_length_eq_zero h2
    subst this h1
    refine (compactR0_spec gf H).mono' ?_
    rintro r _ q ⟨rfl, rfl⟩
    exact ⟨none, 0, rfl, rfl⟩
  · subst h1
    exact compactR1_spec ps gb cap tail H gf hct hps heq hl h2 h3 h5
theorem compactI_spec (ps : List Int) (v : Value) (H : View) (hl : ps.length ≤ 1099511627776) :
    SatO Tryz.prog F2075 #[v] H [row v T3 1 ps.length (ints ps)] (fun r _ q => ∃ a cap, r = .slice a (compF eqI none ps).length cap ∧ q = [row r T3 1 (compF eqI none ps).length (ints (compF eqI none ps))]) := by
  refine SatO.openRow (fun h1 h2 h3 => ?_) (fun gb cap tail h1 h2 h3 h4 h5 => ?_)
  · have : ps = [] := List.eq_nil_of_length_eq_zero h2
    subst this h1
    refine (compactI0_spec H).mono' ?_
    rintro r _ q ⟨rfl, rfl⟩
    exact ⟨none, 0, rfl, rfl⟩
  · subst h1
    rw [ints_flat] at h5 ⊢
    refine (compactI1_spec ps gb cap tail H hl h2 h3 h5).mono' ?_
    rintro r _ q ⟨a, cp, rfl, rfl⟩
    exact ⟨a, cp, rfl, by rw [ints_flat]⟩
end Go.Proofs.X

namespace Go.Proofs.X
open Go Pal Go.Proofs
attribute [local irreducible] Pal.KO Pal.KC Pal.KQ Pal.KD
theorem c2050 : callable Tryz.prog F2050 = true := by kernel_rfl
theorem sortR_spec (gf : Nat) (hg : callable Tryz.prog gf = true) (H : View)
    (hord : ∀ (r s : Rl) (v u : Value), RVok H (r, v) → RVok H (s, u) → Sat Tryz.prog gf #[.agg #[.int .i64 r.sym, v, .int .i64 r.to], .agg #[.int .i64 s.sym, u, .int .i64 s.to]] H (fun x _ => x = .int .i64 (ordR r s)))
    (ps : List (Rl × Value)) (hps : ∀ p ∈ ps, RVok H p) (v : Value) (hlen : ps.length ≤ 1099511627776) :
    SatO Tryz.prog F2072 #[v, .func (.func gf) #[] #[]] H [row v T85 3 ps.length (cellsP ps)] (fun r H' q => r = .tuple #[] ∧ H' = H ∧ ∃ ps', ps'.Perm ps ∧ ps'.Pairwise (fun x y => ¬ ltR y.1 x.1) ∧ q = [row v T85 3 ps'.length (cellsP ps')]) :=
  sortRules (P := Tryz.prog) Tryz.layR (fun w => ty85.run_isAgg w) (fun w => ty85.run_sizeOf w) gf hg H T85 hord ps hps v (by omega)
theorem sortI_spec (xs : List Int) (v : Value) (H : View) (hlen : xs.length ≤ 1099511627776) :
    SatO Tryz.prog F2039 #[v] H [row v T3 1 xs.length (ints xs)] (fun r H' q => r = .tuple #[] ∧ H' = H ∧ ∃ ys, ys.Perm xs ∧ ys.Pairwise (· ≤ ·) ∧ q = [row v T3 1 ys.length (ints ys)]) :=
  sortInts (P := Tryz.prog) Tryz.layI H T3 xs v (by omega)
theorem orderV_spec (H : View) (r s : Rl) (v u : Value) (h1 : RVok H (r, v)) (h2 : RVok H (s, u)) : Sat Tryz.prog F2050 #[.agg #[.int .i64 r.sym, v, .int .i64 r.to], .agg #[.int .i64 s.sym, u, .int .i64 s.to]] H (fun x _ => x = .int .i64 (ordR r s)) := by
  obtain ⟨a, cp, e⟩ := h1.1.shape
  obtain ⟨a2, cp2, e2⟩ := h2.1.shape
  dsimp only at e e2
  subst e e2
  exact order_spec r s a a2 cp cp2 H h1.1 h2.1 h1.2.1 h2.2.1

theorem eqO_spec (H : View) (p q : Rl × Value) (h1 : RVok H p) (h2 : RVok H q) : Sat Tryz.prog F2074 #[.agg (cellRV p).toArray, .agg (cellRV q).toArray] H (fun r _ => r = .bool (eqP p q)) := by
  refine enterO (n := 9) (args := [.agg (cellRV p).toArray, .agg (cellRV q).toArray]) Tryz.func125 rfl rfl rfl fun w0 => ?_
  refine K_seq ?_
  refine K_region ?_
  refine KA (A_box rfl) rfl fun b2 => ?_
  refine KA (A_box rfl) rfl fun b3 => ?_
  refine KV (R_assign rfl) rfl ?_
  refine K_nil ?_
  refine Q_then ?_
  refine K_seq ?_
  refine K_region ?_
  refine KV (R_loadW ty85 1 rfl rfl rfl rfl) rfl ?_
  refine KV (R_loadW ty85 0 rfl rfl rfl rfl) rfl ?_
  refine K_call c2050 rfl rfl (orderV_spec H p.1 q.1 p.2 q.2 h1 h2) ?_
  rintro _ V1 hv1 rfl
  refine KV (R_cmp rfl rfl rfl) rfl ?_
  refine KV (R_assign rfl) rfl ?_
  refine K_nil ?_
  refine Q_then ?_
  refine K_ret ?_
  refine results_gen (rs := [.tmp 4]) (vs := [_]) rfl ⟨rfl, trivial⟩ ?_
  rfl

theorem nclone_spec (a : Au) (vr vu vf : Value) (H : View) (ha : RepAu H a vr vu vf) : SatO Tryz.prog F2037 #[.agg #[vr, .int .i64 a.states, vu, vf]] H [] (fun r H' q => OwnAu H' T3 T85 a r q ∧ True) := by
  obtain ⟨ra, rcp, rfl⟩ := ha.r.shape
  obtain ⟨fa, fcp, rfl⟩ := ha.f.shape
  obtain ⟨ua, ucp, rfl⟩ := ha.ushape
  have hrl := ha.rl
  have hul := ha.ul
  have hfl := ha.fl
  refine enterO (n := 37) (args := [.agg #[.slice ra a.ranks.length rcp, .int .i64 a.states, .slice ua a.rules.length ucp, .slice fa a.final.length fcp]]) Tryz.func100 rfl rfl rfl fun w0 => ?_
  refine K_seq ?_
  refine K_region ?_
  refine KA (A_box rfl) rfl fun b1 => ?_
  refine KA (A_alloc z50) rfl fun b2 => ?_
  refine K_nil ?_
  refine Q_then ?_
  refine K_seq ?_
  refine K_regionD (fin := true) (R := [0, 1, 3, 4, 5, 6, 2, 7, 8, 9, 10]) (by kernel_rfl) mixed (.cons _ (.cons_cons _ (List.nil_sublist _))) ?_
  refine D_val rfl rfl rfl (R_fieldAddr 0 fd50_0 rfl) ?_
  refine D_val rfl rfl rfl (R_loadO ty47 0 rfl rfl rfl rfl (fun _ => rfl) rfl) ?_
  refine D_val rfl rfl rfl (R_fieldAddr 1 fd50_1 rfl) ?_
  refine D_val rfl rfl rfl (R_loadO ty3 0 rfl rfl rfl rfl (fun _ => rfl) rfl) ?_
  refine D_val rfl rfl rfl (R_fieldAddr 3 fd50_3 rfl) ?_
  refine D_val rfl rfl rfl (R_loadO ty25 0 rfl rfl rfl rfl (fun _ => rfl) rfl) ?_
  refine D_call rfl rfl c45 rfl ⟨⟨1, rfl⟩, trivial⟩ (clone47_spec a.ranks _ H ha.r hrl) ?_
  rintro _ V0 hv0 hcr
  obtain ⟨ca, cc, rfl⟩ := hcr.shape
  refine D_callO (first := []) [] _ rfl rfl c65 rfl rfl (List.Perm.refl _) ⟨⟨1, rfl⟩, trivial⟩ (clone25o_spec [] a.final _ V0 (ha.mono hv0).f.1.rd hfl).rowshape ?_
  rintro _ V1 q13 hv1 ⟨f13, fc13, rfl, rfl⟩
  dsimp only [List.cons_append, List.nil_append]
  refine D_val rfl rfl rfl (R_build z50 pl50 rfl rfl) ?_
  refine D_alloc rfl rfl rfl (A_alloc z50) fun b3 => ?_
  refine D_lastStore ty50 0 rfl rfl rfl rfl rfl rfl rfl rfl ?_
  refine Q_then ?_
  refine K_seq ?_
  refine K_seq ?_
  refine K_region ?_
  refine KV (R_fieldAddr 2 fd50_2 rfl) rfl ?_
  refine KV (R_loadO ty48 3 rfl rfl rfl rfl (fun _ => rfl) rfl) rfl ?_
  refine KV (R_len sl48 rfl) rfl ?_
  refine KV (R_move rfl) rfl ?_
  refine K_nil ?_
  refine Q_then ?_
  refine K_block ?_
  refine K_nilrow T85 3 ?_
  refine KC_many_nil ?_
  refine K_loopD (G := Nat × View × Value × (List (Rl × Value))) [5, 18, 19, 20, 21, 22, 23, 24, 25, 26, 27, 28, 29, 30, 31, 32, 33, 34, 35] (fun g => [(18, .int .i64 (g.1 : Int))]) (fun hl g => (((hl.set 0 (many (rowsFrom T3 g.2.2.2))).set 1 (row g.2.2.1 T85 3 g.1 (cellsP g.2.2.2))).set 2 (blk b3 (.cells #[.slice ca a.ranks.length cc, .int .i64 a.states, g.2.2.1, .slice f13 a.final.length fc13] T50 (0, 0))))) (fun g => g.2.1) (fun g => (g.1 ≤ a.rules.length) ∧ (VLe V1 g.2.1) ∧ (g.2.2.2.map (·.1) = a.rules.take g.1) ∧ (∃ ad cp, g.2.2.1 = .slice ad g.1 cp)) (fun g => a.rules.length - g.1) (0, V1, nilS, []) ⟨Nat.zero_le _, VLe.refl _, rfl, none, 0, rfl⟩ ⟨rfl, trivial⟩ (by simp only [args0, Nat.reduceAdd, del, memN, beqN, Nat.reduceBEq, cond_true, cond_false]; rfl) rfl rfl ?_
  rintro ⟨k, V, w, ps⟩ ⟨hk, hV, hps, hw⟩
  dsimp only at hk hV hps hw
  dsimp only [List.set, List.cons_append, List.nil_append]
  obtain ⟨wa, wcp, rfl⟩ := hw
  refine K_seq ?_
  refine K_region ?_
  refine KV (R_cmp rfl rfl rfl) rfl ?_
  refine K_nil ?_
  refine Q_then ?_
  refine K_seq ?_
  refine K_if rfl (fun h19 => ?_) (fun h19 => ?_)
  ·
    have hk' : k < a.rules.length := by omega
    obtain ⟨ub, uo, ucp2, xa, xcp, hue, hrc, hsr, hsym, hto, hxl⟩ := (ha.mono (hv0.trans (hv1.trans hV))).rule hk'
    cases hue
    refine K_skip ?_
    refine Q_then ?_
    refine K_seq ?_
    refine K_block ?_
    refine K_seq ?_
    refine K_region ?_
    refine KV (R_indexN sl48 ty85 rfl rfl (by omega)) rfl ?_
    refine KV (R_loadH ty85 rfl (hrc) rfl (fun e => by cases e) rfl) rfl ?_
    refine KA (A_alloc z85) rfl fun b5 => ?_
    refine K_storeW ty85 0 rfl rfl rfl rfl rfl rfl rfl ?_
    refine K_nil ?_
    refine Q_then ?_
    refine K_regionD (fin := true) (R := [0, 1, 2, 3, 4, 5, 7, 8, 6, 9, 10, 11, 12, 13]) (by kernel_rfl) mixed (.cons_cons _ (.cons _ (.cons _ (.cons_cons _ (.cons _ (.cons _ (.cons_cons _ (List.nil_sublist _)))))))) ?_
    refine D_val rfl rfl rfl (R_fieldAddr 2 fd50_2 rfl) ?_
    refine D_val rfl rfl rfl (R_loadO ty48 1 rfl rfl rfl rfl (fun _ => rfl) rfl) ?_
    refine D_val rfl rfl rfl (R_fieldAddr 0 fd85_0 rfl) ?_
    refine D_val rfl rfl rfl (R_loadO ty3 0 rfl rfl rfl rfl (fun _ => rfl) rfl) ?_
    refine D_val rfl rfl rfl (R_fieldAddr 1 fd85_1 rfl) ?_
    refine D_val rfl rfl rfl (R_loadO ty25 0 rfl rfl rfl rfl (fun _ => rfl) rfl) ?_
    refine D_val rfl rfl rfl (R_fieldAddr 2 fd85_2 rfl) ?_
    refine D_val rfl rfl rfl (R_loadO ty3 0 rfl rfl rfl rfl (fun _ => rfl) rfl) ?_
    refine D_callO (first := []) [] _ rfl rfl c65 rfl rfl (List.Perm.refl _) ⟨⟨0, rfl⟩, ⟨3, rfl⟩, ⟨6, rfl⟩, trivial⟩ (clone25o_spec [] a.rules[k].args _ V hsr.1.rd hxl).rowshape ?_
    rintro _ U q28 hU ⟨f28, fc28, rfl, rfl⟩
    dsimp only [List.cons_append, List.nil_append]
    refine D_val rfl rfl rfl (R_build z85 pl85 rfl rfl) ?_
    refine D_alloc rfl rfl rfl (A_buildSlice (vs := [.agg #[.int .i64 a.rules[k].sym, .slice f28 a.rules[k].args.length fc28, .int .i64 a.rules[k].to]]) sl48 ty85 z85 rfl rfl (by simp [Value.cells]) (by simp) rfl (by decide)) fun b32 => ?_
    refine D_append1 3 ap48 rfl rfl rfl rfl rfl rfl ⟨⟨1, rfl⟩, ⟨3, rfl⟩, ⟨6, rfl⟩, trivial⟩ rfl rfl ⟨by omega, by omega⟩ fun a33 k33 hn33 => ?_
    refine D_val rfl rfl rfl (R_fieldAddr 2 fd50_2 rfl) ?_
    refine D_lastStore ty48 4 rfl rfl rfl rfl rfl rfl rfl rfl ?_
    refine KQ_front 3 rfl ?_
    refine KQ_front 2 rfl ?_
    refine KQ_many_snoc ?_
    dsimp only [List.eraseIdx]
    refine Q_block ?_
    refine Q_then ?_
    refine K_region ?_
    refine KV (R_add rfl rfl (by omega)) rfl ?_
    refine KV (R_move rfl) rfl ?_
    refine K_nil ?_
    refine KQ_sel [0, 0, 1, 1, 1, 1] rfl ?_
    refine Q_nextD (k + 1, U, .slice a33 (k + 1) k33, ps ++ [(a.rules[k], .slice f28 a.rules[k].args.length fc28)]) ⟨hk', hV.trans hU, by rw [List.take_succ_eq_append_getElem hk', List.map_append, hps]; rfl, _, _, rfl⟩ (by (try dsimp only); omega) ⟨rfl, trivial⟩ rfl (by dsimp only [List.set]; rw [rowsFrom_snoc, cellsP_snoc]; rfl) rfl
  ·
    have hk' : k = a.rules.length := by omega
    subst hk'
    rw [List.take_length] at hps
    have hpl : ps.length = a.rules.length := by rw [← hps]; simp
    refine K_exit ?_
    refine Q_then_exit ?_
    refine Q_then_exit ?_
    refine Q_block_exit ?_
    refine Q_then ?_
    refine K_seq ?_
    refine K_region ?_
    refine KV (R_loadO ty50 2 rfl rfl rfl rfl (fun e => by cases e) rfl) rfl ?_
    refine K_store ty50 4 rfl rfl rfl rfl rfl rfl ?_
    refine K_nil ?_
    refine Q_then ?_
    refine K_ret ?_
    refine results_sel [1, 2, 0] rfl (rs := [.cell 2 62]) (vs := [_]) rfl ⟨⟨_, _, _, _, _, _, 4, rfl, rfl, ty50, (fun e => by cases e), rfl, rfl⟩, trivial⟩ ?_
    refine ⟨⟨_, wa, wcp, f13, fc13, ps, ?_, hcr.mono (hv1.trans hV), hps, ?_⟩, trivial⟩
    · rw [hpl]; rfl
    · rw [hpl]
end Go.Proofs.X

namespace Go.Proofs.X
open Go Pal Go.Proofs
attribute [local irreducible] Pal.KO Pal.KC Pal.KQ Pal.KD
theorem c2037 : callable Tryz.prog F2037 = true := by kernel_rfl
theorem c2039 : callable Tryz.prog F2039 = true := by kernel_rfl
theorem c2072 : callable Tryz.prog F2072 = true := by kernel_rfl
theorem c2073 : callable Tryz.prog F2073 = true := by kernel_rfl
theorem c2074 : callable Tryz.prog F2074 = true := by kernel_rfl
theorem c2075 : callable Tryz.prog F2075 = true := by kernel_rfl
theorem sortOwn_spec (ps : List (Rl × Value)) (hb : ∀ p ∈ ps, RlB p.1) (v : Value) (H : View) (hlen : ps.length ≤ 1099511627776) :
    SatO Tryz.prog F2072 #[v, .func (.func F2050) #[] #[]] H [row v T85 3 ps.length (cellsP ps), many (rowsFrom T3 ps)] (fun r H' q => r = .tuple #[] ∧ H' = H ∧ ∃ ps', ps'.Perm ps ∧ ps'.Pairwise (fun x y => ¬ ltR y.1 x.1) ∧ q = [row v T85 3 ps'.length (cellsP ps'), many (rowsFrom T3 ps')]) := by
  have h := SatO.lend (P := Tryz.prog) (f := F2072) (args := #[v, .func (.func F2050) #[] #[]]) (H := H) (hl := [row v T85 3 ps.length (cellsP ps)]) [many (rowsFrom T3 ps)]
    (post := fun r q => r = .tuple #[] ∧ ∃ ps', ps'.Perm ps ∧ ps'.Pairwise (fun x y => ¬ ltR y.1 x.1) ∧ q = [row v T85 3 ps'.length (cellsP ps')])
    (fun H2 _ hh => (sortR_spec F2050 c2050 H2 (orderV_spec H2) ps (rv_of_many (hh _ (List.mem_cons_self ..)) hb) v hlen).mono' (fun _ _ _ h => ⟨h.1, h.2.2⟩))
  intro w hw
  refine Calls.mono (h w hw) ?_
  rintro e w' ⟨r, H', q, rfl, hok, rfl, q', rfl, rfl, ps', hp, hs, rfl⟩
  refine ⟨_, H', _, rfl, ?_, rfl, rfl, ps', hp, hs, rfl⟩
  have h2 : Ok _ w' H' (many (rowsFrom T3 ps) :: [row v T85 3 ps'.length (cellsP ps')]) := hok.perm (List.Perm.swap _ _ _)
  exact (h2.many_perm (p' := rowsFrom T3 ps') (hp.symm.map _)).perm (List.Perm.swap _ _ _)
theorem compactOwn_spec (gf : Nat) (hct : callable Tryz.prog gf = true) (heq : ∀ (H : View) (p q : Rl × Value), RVok H p → RVok H q → Sat Tryz.prog gf #[.agg (cellRV p).toArray, .agg (cellRV q).toArray] H (fun r _ => r = .bool (eqP p q))) (ps : List (Rl × Value)) (hb : ∀ p ∈ ps, RlB p.1) (v : Value) (H : View) (hlen : ps.length ≤ 1099511627776) :
    SatO Tryz.prog F2073 #[v, .func (.func gf) #[] #[]] H [row v T85 3 ps.length (cellsP ps), many (rowsFrom T3 ps)] (fun r H' q => H' = H ∧ ∃ a cap, r = .slice a (compF eqP none ps).length cap ∧ q = [row r T85 3 (compF eqP none ps).length (cellsP (compF eqP none ps)), many (rowsFrom T3 (compF eqP none ps))]) := by
  have h := SatO.lend (P := Tryz.prog) (f := F2073) (args := #[v, .func (.func gf) #[] #[]]) (H := H) (hl := [row v T85 3 ps.length (cellsP ps)]) [many (rowsFrom T3 ps)]
    (post := fun r q => ∃ a cap, r = .slice a (compF eqP none ps).length cap ∧ q = [row r T85 3 (compF eqP none ps).length (cellsP (compF eqP none ps))])
    (fun H2 _ hh => compactR_spec ps v H2 gf hct (rv_of_many (hh _ (List.mem_cons_self ..)) hb) (fun H3 p q _ h1 h2 => heq H3 p q h1 h2) hlen)
  intro w hw
  refine Calls.mono (h w hw) ?_
  rintro e w' ⟨r, H', q, rfl, hok, rfl, q', rfl, a, cap, rfl, rfl⟩
  refine ⟨_, H', _, rfl, ?_, rfl, a, cap, rfl, rfl⟩
  have h2 : Ok _ w' H' (many (rowsFrom T3 ps) :: [row (.slice a (compF eqP none ps).length cap) T85 3 (compF eqP none ps).length (cellsP (compF eqP none ps))]) := hok.perm (List.Perm.swap _ _ _)
  exact (h2.many_sub (p' := rowsFrom T3 (compF eqP none ps)) ((compF_sublist eqP none ps).map _)).perm (List.Perm.swap _ _ _)

theorem sorted_spec (a : Au) (vr vu vf : Value) (H : View) (ha : RepAu H a vr vu vf) : SatO Tryz.prog F2045 #[.agg #[vr, .int .i64 a.states, vu, vf]] H [] (fun r H' q => OwnAu H' T3 T85 (normA a) r q ∧ True) := by
  obtain ⟨ra, rcp, rfl⟩ := ha.r.shape
  obtain ⟨fa, fcp, rfl⟩ := ha.f.shape
  obtain ⟨ua, ucp, rfl⟩ := ha.ushape
  have hab := ha.b
  have hul := ha.ul
  have hfl := ha.fl
  refine enterO (n := 20) (args := [.agg #[.slice ra a.ranks.length rcp, .int .i64 a.states, .slice ua a.rules.length ucp, .slice fa a.final.length fcp]]) Tryz.func101 rfl rfl rfl fun w0 => ?_
  refine K_seq ?_
  refine K_region ?_
  refine KA (A_box rfl) rfl fun b1 => ?_
  refine KA (A_alloc z50) rfl fun b2 => ?_
  refine K_nil ?_
  refine Q_then ?_
  refine K_seq ?_
  refine K_region ?_
  refine KV (R_loadW ty50 1 rfl rfl rfl rfl) rfl ?_
  refine K_callO (first := []) [] _ (List.Perm.refl _) c2037 rfl rfl rfl (nclone_spec a _ _ _ H ha) ?_
  rintro _ V1 q hv1 ⟨⟨xr, ua2, uc2, fa2, fc2, ps, rfl, hxr, hps, rfl⟩, _⟩
  dsimp only [List.cons_append, List.nil_append]
  obtain ⟨xa, xc, rfl⟩ := hxr.shape
  have hpl : ps.length = a.rules.length := by rw [← hps]; simp
  have hpb : ∀ p ∈ ps, RlB p.1 := fun p hp => hab.u p.1 (by rw [← hps]; exact List.mem_map.2 ⟨p, hp, rfl⟩)
  refine K_storeW ty50 4 rfl rfl rfl rfl rfl rfl rfl ?_
  refine K_nil ?_
  refine Q_then ?_
  refine K_seq ?_
  refine K_region ?_
  refine KV (R_fieldAddr 2 fd50_2 rfl) rfl ?_
  refine KV (R_loadO ty48 4 rfl rfl rfl rfl (fun _ => rfl) rfl) rfl ?_
  refine KO_sel [0, 1, 0, 0, 0] rfl ?_
  refine K_callO (first := []) [_, _] _ (List.Perm.refl _) c2072 rfl rfl rfl (sortOwn_spec ps hpb _ V1 (by omega)) ?_
  rintro _ V2 q hv2 ⟨rfl, rfl, ps2, hp2, hs2, rfl⟩
  dsimp only [List.cons_append, List.nil_append]
  have hpb2 : ∀ p ∈ ps2, RlB p.1 := fun p hp => hpb p (hp2.mem_iff.1 hp)
  have hpl2 : ps2.length = ps.length := hp2.length_eq
  refine K_nil ?_
  refine Q_then ?_
  refine K_seq ?_
  refine K_region ?_
  refine KV (R_fieldAddr 2 fd50_2 rfl) rfl ?_
  refine KV (R_loadO ty48 4 rfl rfl rfl rfl (fun _ => rfl) rfl) rfl ?_
  refine K_callO (first := []) [_, _] _ (List.Perm.refl _) c2073 rfl rfl rfl (by rw [← hpl2]; exact compactOwn_spec F2074 c2074 eqO_spec ps2 hpb2 _ V2 (by omega)) ?_
  rintro _ V3 q hv3 ⟨rfl, ua3, uc3, rfl, rfl⟩
  dsimp only [List.cons_append, List.nil_append]
  have hps3 : (compF eqP none ps2).map (·.1) = sortO a.rules := by
    rw [comp_rules hs2, ← hps]
    exact sortO_congr fun x => (hp2.map _).mem_iff
  have hpl3 := congrArg List.length hps3
  rw [List.length_map] at hpl3
  refine KV (R_fieldAddr 2 fd50_2 rfl) rfl ?_
  refine K_store ty48 4 rfl rfl rfl rfl rfl rfl ?_
  refine K_nil ?_
  refine Q_then ?_
  refine K_seq ?_
  refine K_region ?_
  refine KV (R_fieldAddr 3 fd50_3 rfl) rfl ?_
  refine KV (R_loadO ty25 4 rfl rfl rfl rfl (fun _ => rfl) rfl) rfl ?_
  refine KO_sel [2, 0, 0, 0, 0] rfl ?_
  refine K_callO (first := []) [_] _ (List.Perm.refl _) c2039 rfl rfl rfl (sortI_spec a.final _ V3 (by omega)) ?_
  rintro _ V4 q hv4 ⟨rfl, rfl, fs, hf1, hf2, rfl⟩
  dsimp only [List.cons_append, List.nil_append]
  have hfl2 : fs.length = a.final.length := hf1.length_eq
  refine K_nil ?_
  refine Q_then ?_
  refine K_seq ?_
  refine K_region ?_
  refine KV (R_fieldAddr 3 fd50_3 rfl) rfl ?_
  refine KV (R_loadO ty25 4 rfl rfl rfl rfl (fun _ => rfl) rfl) rfl ?_
  refine K_callO (first := []) [_] _ (List.Perm.refl _) c2075 rfl rfl rfl (by rw [← hfl2]; exact compactI_spec fs _ V4 (by omega)) ?_
  rintro _ V5 q hv5 ⟨fa3, fc3, rfl, rfl⟩
  dsimp only [List.cons_append, List.nil_append]
  have hfs : compF eqI none fs = sortI a.final := (comp_ints hf2).trans (sortI_congr fun x => hf1.mem_iff)
  rw [hfs]
  refine KV (R_fieldAddr 3 fd50_3 rfl) rfl ?_
  refine K_store ty25 4 rfl rfl rfl rfl rfl rfl ?_
  refine K_nil ?_
  refine Q_then ?_
  refine K_seq ?_
  refine K_region ?_
  refine KV (R_loadW ty50 4 rfl rfl rfl rfl) rfl ?_
  refine K_storeW ty50 3 rfl rfl rfl rfl rfl rfl rfl ?_
  refine K_nil ?_
  refine Q_then ?_
  refine K_ret ?_
  refine results_sel [1, 0, 0] rfl (rs := [.cell 2 62]) (vs := [_]) rfl ⟨⟨_, _, _, _, _, _, 3, rfl, rfl, ty50, (fun e => by cases e), rfl, rfl⟩, trivial⟩ ?_
  refine ⟨⟨_, ua3, uc3, fa3, fc3, compF eqP none ps2, ?_, hxr.mono hv5, hps3, ?_⟩, trivial⟩
  · rw [hpl3]; rfl
  · rfl
end Go.Proofs.X

namespace Go.Proofs.X
open Go Pal Go.Proofs
attribute [local irreducible] Pal.KO Pal.KC Pal.KQ Pal.KD
theorem c2045 : callable Tryz.prog F2045 = true := by kernel_rfl
theorem sortedP_spec (a : Au) (vr vu vf : Value) (H : View) (ha : RepAu H a vr vu vf) : SatO Tryz.prog F2045 #[.agg #[vr, .int .i64 a.states, vu, vf]] H [] (fun r H' q => q = [] ∧ (∃ v1 v2 v3, r = .agg #[v1, .int .i64 a.states, v2, v3] ∧ RepAu H' (normA a) v1 v2 v3) ∧ True) :=
  SatO.pub_au (a := normA a) ha.b.norm (sorted_spec a vr vu vf H ha)

end Go.Proofs.X

namespace Go.Proofs.X
open Go Pal Go.Proofs
attribute [local irreducible] Pal.KO Pal.KC Pal.KQ Pal.KD

end Go.Proofs.X

namespace Go.Proofs.X
open Go Pal Go.Proofs
attribute [local irreducible] Pal.KO Pal.KC Pal.KQ Pal.KD
end Go.Proofs.X

namespace Go.Proofs.X
open Go Pal Go.Proofs
attribute [local irreducible] Pal.KO Pal.KC Pal.KQ Pal.KD
end Go.Proofs.X

namespace Go.Proofs.X
open Go Pal Go.Proofs
attribute [local irreducible] Pal.KO Pal.KC Pal.KQ Pal.KD
end Go.Proofs.X

namespace Go.Proofs.X
open Go Pal Go.Proofs
attribute [local irreducible] Pal.KO Pal.KC Pal.KQ Pal.KD
end Go.Proofs.X

namespace Go.Proofs.X
open Go Pal Go.Proofs
attribute [local irreducible] Pal.KO Pal.KC Pal.KQ Pal.KD
end Go.Proofs.X

namespace Go.Proofs.X
open Go Pal Go.Proofs
attribute [local irreducible] Pal.KO Pal.KC Pal.KQ Pal.KD
end Go.Proofs.X

namespace Go.Proofs.X
open Go Pal Go.Proofs
attribute [local irreducible] Pal.KO Pal.KC Pal.KQ Pal.KD

theorem sortedS_spec (a : Au) (vr vu vf : Value) (H : View) (ha : RepAu H a vr vu vf) : Sat Tryz.prog F2045 #[.agg #[vr, .int .i64 a.states, vu, vf]] H (fun r H' => ∃ v1 v2 v3, r = .agg #[v1, .int .i64 a.states, v2, v3] ∧ RepAu H' (normA a) v1 v2 v3) :=
  (sortedP_spec a vr vu vf H ha).mono' fun _ _ _ h => h.2.1
end Go.Proofs.X

namespace Go.Proofs.X
open Go Pal Go.Proofs
attribute [local irreducible] Pal.KO Pal.KC Pal.KQ Pal.KD

theorem nfits_spec (ls src dst : List Int) (v1 v2 v3 : Value) (H : View) (h1 : SI H v1 ls) (h2 : SI H v2 src) (h3 : SI H v3 dst) (hb1 : ls.length ≤ 1099511627776) : Sat Tryz.prog F2052 #[v1, v2, v3] H (fun r _ => r = .bool (mapsM ls src dst)) := by
  obtain ⟨a1, k1, rfl⟩ := h1.shape
  obtain ⟨a2, k2, rfl⟩ := h2.shape
  obtain ⟨a3, k3, rfl⟩ := h3.shape
  refine enterO (n := 41) (args := [.slice a1 ls.length k1, .slice a2 src.length k2, .slice a3 dst.length k3]) Tryz.func99 rfl rfl rfl fun w0 => ?_
  refine K_seq ?_
  refine K_region ?_
  refine KV (R_assign rfl) rfl ?_
  refine K_nil ?_
  refine Q_then ?_
  refine K_seq ?_
  refine K_seq ?_
  refine K_region ?_
  refine KV (R_move rfl) rfl ?_
  refine KV (R_len sl25 rfl) rfl ?_
  refine KV (R_move rfl) rfl ?_
  refine KV (R_len sl47 rfl) rfl ?_
  refine KV (R_cmp rfl rfl rfl) rfl ?_
  refine K_nil ?_
  refine Q_then ?_
  refine K_if rfl (fun h13 => ?_) (fun h13 => ?_)
  ·
    refine K_seq ?_
    refine K_region ?_
    refine KV (R_assign rfl) rfl ?_
    refine K_nil ?_
    refine Q_then ?_
    refine K_ret ?_
    refine Q_then_ret ?_
    refine results_gen (rs := [.tmp 6]) (vs := [_]) rfl ⟨rfl, trivial⟩ ?_
    refine congrArg Value.bool (Eq.symm ?_)
    first
      | exact mapsM_iff.2 ⟨by omega, fun j h h2 => hyes j h h2 (by omega)⟩
      | (rw [Bool.eq_false_iff]; intro hm; obtain ⟨g1, g2⟩ := mapsM_iff.1 hm; first | omega | (have g3 := g2 k hk' hk2; first | omega | (rw [hgd] at g3; omega)))
  ·
    refine K_skip ?_
    refine Q_then ?_
    refine K_seq ?_
    refine K_seq ?_
    refine K_region ?_
    refine KV (R_move rfl) rfl ?_
    refine KV (R_len sl25 rfl) rfl ?_
    refine KV (R_move rfl) rfl ?_
    refine K_nil ?_
    refine Q_then ?_
    refine K_block ?_
    refine K_loopD (G := Nat) [6, 7, 8, 16, 17, 18, 19, 20, 21, 22, 23, 24, 25, 26, 27, 28, 29, 30, 31, 32, 33, 34, 35, 36, 37, 38, 39, 40] (fun g => [(16, .int .i64 (g : Int))]) (fun hl g => hl) (fun g => H) (fun g => (g ≤ ls.length) ∧ (∀ j (h : j < ls.length) (h2 : j < src.length), j < g → (0 ≤ ls[j] ∧ ls[j] < dst.length) ∧ dst.getD ls[j].toNat 0 = src[j])) (fun g => ls.length - g) 0 ⟨Nat.zero_le _, fun j _ _ h => by simp at h⟩ ⟨rfl, trivial⟩ (by simp only [args0, Nat.reduceAdd, del, memN, beqN, Nat.reduceBEq, cond_true, cond_false]; rfl) rfl rfl ?_
    rintro k ⟨hk, hyes⟩
    try dsimp only at hk
    try dsimp only at hyes
    dsimp only [List.set, List.cons_append, List.nil_append]
    refine K_seq ?_
    refine K_region ?_
    refine KV (R_cmp rfl rfl rfl) rfl ?_
    refine K_nil ?_
    refine Q_then ?_
    refine K_seq ?_
    refine K_if rfl (fun h17 => ?_) (fun h17 => ?_)
    ·
      have hk' : k < ls.length := by omega
      have hk2 : k < src.length := by omega
      obtain ⟨tb, to_, hte, hta⟩ := h1.get hk'
      cases hte
      obtain ⟨sb, so, hse, hsx⟩ := h2.get hk2
      cases hse
      refine K_skip ?_
      refine Q_then ?_
      refine K_seq ?_
      refine K_block ?_
      refine K_seq ?_
      refine K_region ?_
      refine KV (R_move rfl) rfl ?_
      refine KV (R_indexN sl25 ty3 rfl rfl (by omega)) rfl ?_
      refine KV (R_loadH ty3 rfl (hta) rfl (fun _ => rfl) rfl) rfl ?_
      refine KV (R_assign rfl) rfl ?_
      refine KV (R_assign rfl) rfl ?_
      refine K_nil ?_
      refine Q_then ?_
      refine K_seq ?_
      refine K_regionD (fin := false) (R := [0, 1, 2, 3, 4, 5, 6, 7, 8, 9, 10, 11, 12, 13, 14, 15, 16, 17, 18]) (by kernel_rfl) mixed (List.nil_sublist _) ?_
      refine D_val rfl rfl rfl (R_move rfl) ?_
      refine D_val rfl rfl rfl (R_cmp rfl rfl rfl) ?_
      refine D_val rfl rfl rfl (R_move rfl) ?_
      refine D_split ?_ ?_
      ·
        intro h23
        refine D_skip rfl rfl ?_
        refine D_skip rfl rfl ?_
        refine D_skip rfl rfl ?_
        refine D_skip rfl rfl ?_
        refine D_val rfl rfl rfl (R_pickT rfl rfl) ?_
        refine D_val rfl rfl rfl (R_move rfl) ?_
        refine D_skip rfl rfl ?_
        refine D_skip rfl rfl ?_
        refine D_skip rfl rfl ?_
        refine D_skip rfl rfl ?_
        refine D_skip rfl rfl ?_
        refine D_skip rfl rfl ?_
        refine D_skip rfl rfl ?_
        refine D_skip rfl rfl ?_
        refine D_skip rfl rfl ?_
        refine D_val rfl rfl rfl (R_pickT rfl rfl) ?_
        refine D_done ?_
        refine Q_then ?_
        refine K_ifT rfl ?_
        refine K_seq ?_
        refine K_region ?_
        refine KV (R_assign rfl) rfl ?_
        refine K_nil ?_
        refine Q_then ?_
        refine K_ret ?_
        refine Q_block_ret ?_
        refine Q_then_ret ?_
        refine Q_then_ret ?_
        refine Q_block_ret ?_
        refine Q_then_ret ?_
        refine results_gen (rs := [.tmp 6]) (vs := [_]) rfl ⟨rfl, trivial⟩ ?_
        refine congrArg Value.bool (Eq.symm ?_)
        first
          | exact mapsM_iff.2 ⟨by omega, fun j h h2 => hyes j h h2 (by omega)⟩
          | (rw [Bool.eq_false_iff]; intro hm; obtain ⟨g1, g2⟩ := mapsM_iff.1 hm; first | omega | (have g3 := g2 k hk' hk2; first | omega | (rw [hgd] at g3; omega)))
      ·
        intro h23
        refine D_val rfl rfl rfl (R_move rfl) ?_
        refine D_val rfl rfl rfl (R_move rfl) ?_
        refine D_val rfl rfl rfl (R_len sl47 rfl) ?_
        refine D_val rfl rfl rfl (R_cmp rfl rfl rfl) ?_
        refine D_val rfl rfl rfl (R_pickF rfl rfl) ?_
        refine D_val rfl rfl rfl (R_move rfl) ?_
        refine D_split ?_ ?_
        ·
          intro h29
          refine D_skip rfl rfl ?_
          refine D_skip rfl rfl ?_
          refine D_skip rfl rfl ?_
          refine D_skip rfl rfl ?_
          refine D_skip rfl rfl ?_
          refine D_skip rfl rfl ?_
          refine D_skip rfl rfl ?_
          refine D_skip rfl rfl ?_
          refine D_skip rfl rfl ?_
          refine D_val rfl rfl rfl (R_pickT rfl rfl) ?_
          refine D_done ?_
          refine Q_then ?_
          refine K_ifT rfl ?_
          refine K_seq ?_
          refine K_region ?_
          refine KV (R_assign rfl) rfl ?_
          refine K_nil ?_
          refine Q_then ?_
          refine K_ret ?_
          refine Q_block_ret ?_
          refine Q_then_ret ?_
          refine Q_then_ret ?_
          refine Q_block_ret ?_
          refine Q_then_ret ?_
          refine results_gen (rs := [.tmp 6]) (vs := [_]) rfl ⟨rfl, trivial⟩ ?_
          refine congrArg Value.bool (Eq.symm ?_)
          first
            | exact mapsM_iff.2 ⟨by omega, fun j h h2 => hyes j h h2 (by omega)⟩
            | (rw [Bool.eq_false_iff]; intro hm; obtain ⟨g1, g2⟩ := mapsM_iff.1 hm; first | omega | (have g3 := g2 k hk' hk2; first | omega | (rw [hgd] at g3; omega)))
        ·
          intro h29
          have hx1 : ls[k].toNat < dst.length := by omega
          obtain ⟨db, do_, hde, hdx⟩ := h3.get hx1
          cases hde
          have hgd : dst.getD ls[k].toNat 0 = dst[ls[k].toNat] := by simp [List.getD, hx1]
          refine D_val rfl rfl rfl (R_move rfl) ?_
          refine D_val rfl rfl rfl (R_move rfl) ?_
          refine D_val rfl rfl rfl (R_index sl47 ty3 rfl rfl ⟨by omega, by omega⟩) ?_
          refine D_val rfl rfl rfl (R_loadH ty3 rfl (hdx) rfl (fun _ => rfl) rfl) ?_
          refine D_val rfl rfl rfl (R_move rfl) ?_
          refine D_val rfl rfl rfl (R_move rfl) ?_
          refine D_val rfl rfl rfl (R_indexN sl47 ty3 rfl rfl (by omega)) ?_
          refine D_val rfl rfl rfl (R_loadH ty3 rfl (hsx) rfl (fun _ => rfl) rfl) ?_
          refine D_val rfl rfl rfl (R_cmp rfl rfl rfl) ?_
          refine D_val rfl rfl rfl (R_pickF rfl rfl) ?_
          refine D_done ?_
          refine Q_then ?_
          refine K_if rfl (fun h39 => ?_) (fun h39 => ?_)
          ·
            refine K_seq ?_
            refine K_region ?_
            refine KV (R_assign rfl) rfl ?_
            refine K_nil ?_
            refine Q_then ?_
            refine K_ret ?_
            refine Q_block_ret ?_
            refine Q_then_ret ?_
            refine Q_then_ret ?_
            refine Q_block_ret ?_
            refine Q_then_ret ?_
            refine results_gen (rs := [.tmp 6]) (vs := [_]) rfl ⟨rfl, trivial⟩ ?_
            refine congrArg Value.bool (Eq.symm ?_)
            first
              | exact mapsM_iff.2 ⟨by omega, fun j h h2 => hyes j h h2 (by omega)⟩
              | (rw [Bool.eq_false_iff]; intro hm; obtain ⟨g1, g2⟩ := mapsM_iff.1 hm; first | omega | (have g3 := g2 k hk' hk2; first | omega | (rw [hgd] at g3; omega)))
          ·
            have hyes2 : ∀ j (h : j < ls.length) (h2 : j < src.length), j < k + 1 → (0 ≤ ls[j] ∧ ls[j] < dst.length) ∧ dst.getD ls[j].toNat 0 = src[j] := by
              intro j h h2 hj
              by_cases e : j = k
              · subst e; exact ⟨by omega, by rw [hgd]; omega⟩
              · exact hyes j h h2 (by omega)
            refine K_skip ?_
            refine Q_block ?_
            refine Q_then ?_
            refine K_region ?_
            refine KV (R_add rfl rfl (by omega)) rfl ?_
            refine KV (R_move rfl) rfl ?_
            refine K_nil ?_
            refine Q_nextD (k + 1) ⟨hk', hyes2⟩ (by (try dsimp only); omega) ⟨rfl, trivial⟩ rfl rfl rfl
    ·
      have hk' : k = ls.length := by omega
      refine K_exit ?_
      refine Q_then_exit ?_
      refine Q_then_exit ?_
      refine Q_block_exit ?_
      refine Q_then ?_
      refine K_seq ?_
      refine K_region ?_
      refine KV (R_assign rfl) rfl ?_
      refine K_nil ?_
      refine Q_then ?_
      refine K_ret ?_
      refine results_gen (rs := [.tmp 6]) (vs := [_]) rfl ⟨rfl, trivial⟩ ?_
      refine congrArg Value.bool (Eq.symm ?_)
      first
        | exact mapsM_iff.2 ⟨by omega, fun j h h2 => hyes j h h2 (by omega)⟩
        | (rw [Bool.eq_false_iff]; intro hm; obtain ⟨g1, g2⟩ := mapsM_iff.1 hm; first | omega | (have g3 := g2 k hk' hk2; first | omega | (rw [hgd] at g3; omega)))

theorem turnedE_spec (a : Au) (rk : List Int) (vr vu vf kv : Value) (H : View) (ha : RepAu H a vr vu vf) (hk : SI H kv rk) (hkl : rk.length ≤ 1099511627776) : Sat Tryz.prog F2051 #[.agg #[vr, .int .i64 a.states, vu, vf], kv] H (fun r _ => r = .int .i64 (turnErr a rk)) := by
  obtain ⟨ar, arc, rfl⟩ := ha.r.shape
  obtain ⟨af, afc, rfl⟩ := ha.f.shape
  obtain ⟨au, auc, rfl⟩ := ha.ushape
  obtain ⟨ka, kc, rfl⟩ := hk.shape
  refine enterO (n := 13) (args := [.agg #[.slice ar a.ranks.length arc, .int .i64 a.states, .slice au a.rules.length auc, .slice af a.final.length afc], .slice ka rk.length kc]) Tryz.func98 rfl rfl rfl fun w0 => ?_
  refine K_seq ?_
  refine K_region ?_
  refine KA (A_box rfl) rfl fun b2 => ?_
  refine KV (R_assign rfl) rfl ?_
  refine K_nil ?_
  refine Q_then ?_
  refine K_seq ?_
  refine K_seq ?_
  refine K_region ?_
  refine KV (R_loadW ty50 0 rfl rfl rfl rfl) rfl ?_
  refine K_call c77 rfl rfl (ncheck_spec a _ _ _ H ha) ?_
  rintro _ V1 hv1 rfl
  refine KV (R_assign rfl) rfl ?_
  refine K_nil ?_
  refine Q_then ?_
  refine K_seq ?_
  refine K_region ?_
  refine KV (R_move rfl) rfl ?_
  refine KV (R_cmp rfl rfl rfl) rfl ?_
  refine K_nil ?_
  refine Q_then ?_
  refine K_if rfl (fun h9 => ?_) (fun h9 => ?_)
  ·
    refine K_seq ?_
    refine K_region ?_
    refine KV (R_move rfl) rfl ?_
    refine KV (R_assign rfl) rfl ?_
    refine K_nil ?_
    refine Q_then ?_
    refine K_ret ?_
    refine Q_then_ret ?_
    refine results_gen (rs := [.tmp 4]) (vs := [_]) rfl ⟨rfl, trivial⟩ ?_
    exact congrArg (Value.int .i64) (if_pos h9).symm
  ·
    refine K_skip ?_
    refine Q_then ?_
    refine K_seq ?_
    refine K_region ?_
    refine KV (R_move rfl) rfl ?_
    refine K_call c72 rfl rfl (acheck_spec rk _ V1 (hk.mono hv1) hkl) ?_
    rintro _ V2 hv2 rfl
    refine KV (R_assign rfl) rfl ?_
    refine K_nil ?_
    refine Q_then ?_
    refine K_ret ?_
    refine results_gen (rs := [.tmp 4]) (vs := [_]) rfl ⟨rfl, trivial⟩ ?_
    exact congrArg (Value.int .i64) (if_neg h9).symm
end Go.Proofs.X

namespace Go.Proofs.X
open Go Pal Go.Proofs
attribute [local irreducible] Pal.KO Pal.KC Pal.KQ Pal.KD
theorem c2051 : callable Tryz.prog F2051 = true := by kernel_rfl
theorem c2052 : callable Tryz.prog F2052 = true := by kernel_rfl
theorem relabelN_spec (a : Au) (l rk : List Int) (vr vu vf lv kv : Value) (H : View) (ha : RepAu H a vr vu vf) (hl : SI H lv l) (hk : SI H kv rk) (hll : l.length ≤ 1048576) (hkl : rk.length ≤ 1048576) : Sat Tryz.prog F2023 #[.agg #[vr, .int .i64 a.states, vu, vf], lv, kv] H (fun r H' => ∃ v1 v2 v3, r = .tuple #[.agg #[v1, .int .i64 (errAu (relErr a l rk) (normA (imgA a l rk))).states, v2, v3], .int .i64 (relErr a l rk)] ∧ RepAu H' (errAu (relErr a l rk) (normA (imgA a l rk))) v1 v2 v3) := by
  obtain ⟨ar, arc, rfl⟩ := ha.r.shape
  obtain ⟨af, afc, rfl⟩ := ha.f.shape
  obtain ⟨au, auc, rfl⟩ := ha.ushape
  obtain ⟨la, lc, rfl⟩ := hl.shape
  obtain ⟨ka, kc, rfl⟩ := hk.shape
  have hul := ha.ul
  have hfl := ha.fl
  have hrl := ha.rl
  have hab := ha.b
  refine enterO (n := 52) (args := [.agg #[.slice ar a.ranks.length arc, .int .i64 a.states, .slice au a.rules.length auc, .slice af a.final.length afc], .slice la l.length lc, .slice ka rk.length kc]) Tryz.func62 rfl rfl rfl fun w0 => ?_
  refine K_seq ?_
  refine K_region ?_
  refine KA (A_box rfl) rfl fun b3 => ?_
  refine KA (A_alloc z50) rfl fun b6 => ?_
  refine KV (R_assign rfl) rfl ?_
  refine K_nil ?_
  refine Q_then ?_
  refine K_seq ?_
  refine K_seq ?_
  refine K_region ?_
  refine KV (R_loadW ty50 1 rfl rfl rfl rfl) rfl ?_
  refine KV (R_move rfl) rfl ?_
  refine K_call c2051 rfl rfl (turnedE_spec a rk _ _ _ _ H ha hk (by omega)) ?_
  rintro _ V1 hv1 rfl
  refine KV (R_assign rfl) rfl ?_
  refine K_nil ?_
  refine Q_then ?_
  refine K_seq ?_
  refine K_region ?_
  refine KV (R_move rfl) rfl ?_
  refine KV (R_cmp rfl rfl rfl) rfl ?_
  refine K_nil ?_
  refine Q_then ?_
  refine K_if rfl (fun hte => ?_) (fun hte => ?_)
  ·
    refine K_seq ?_
    refine K_region ?_
    refine KV (R_build z50 pl50 rfl rfl) rfl ?_
    refine KV (R_move rfl) rfl ?_
    refine K_storeW ty50 0 rfl rfl rfl rfl rfl rfl rfl ?_
    refine KV (R_assign rfl) rfl ?_
    refine K_nil ?_
    refine Q_then ?_
    refine K_ret ?_
    refine Q_then_ret ?_
    refine results_gen (rs := [.cell 6 62, .tmp 7]) (vs := [_, _]) rfl ⟨⟨_, _, _, _, _, _, 0, rfl, rfl, ty50, (fun e => by cases e), rfl, rfl⟩, ⟨rfl, trivial⟩⟩ ?_
    have hE : relErr a l rk = turnErr a rk := by unfold relErr; rw [if_pos hte]
    rw [hE, errAu_no hte]
    exact ⟨nilS, nilS, nilS, rfl, RepAu.nil _⟩
  ·
    have hte0 := Decidable.not_not.1 hte
    have hae0 : auErr a = 0 := by
      unfold turnErr at hte0
      split at hte0
      · rename_i h; exact absurd hte0 h
      · rename_i h; exact Decidable.not_not.1 h
    have hok := AuOk.of hae0
    refine K_skip ?_
    refine Q_then ?_
    refine K_seq ?_
    refine K_seq ?_
    refine K_region ?_
    refine KV (R_move rfl) rfl ?_
    refine KV (R_fieldAddr 0 fd50_0 rfl) rfl ?_
    refine KV (R_loadO ty47 1 rfl rfl rfl rfl (fun _ => rfl) rfl) rfl ?_
    refine KV (R_move rfl) rfl ?_
    refine K_call c2052 rfl rfl (nfits_spec l a.ranks rk _ _ _ V1 (hl.mono hv1) (ha.mono hv1).r (hk.mono hv1) (by omega)) ?_
    rintro _ V2 hv2 rfl
    refine KV (R_not rfl) rfl ?_
    refine K_nil ?_
    refine Q_then ?_
    refine K_ifB rfl (fun h24 => ?_) (fun h24 => ?_)
    ·
      have hmf : mapsM l a.ranks rk = false := by simpa using h24
      refine K_seq ?_
      refine K_region ?_
      refine KV (R_build z50 pl50 rfl rfl) rfl ?_
      refine K_storeW ty50 0 rfl rfl rfl rfl rfl rfl rfl ?_
      refine KV (R_assign rfl) rfl ?_
      refine K_nil ?_
      refine Q_then ?_
      refine K_ret ?_
      refine Q_then_ret ?_
      refine results_gen (rs := [.cell 6 62, .tmp 7]) (vs := [_, _]) rfl ⟨⟨_, _, _, _, _, _, 0, rfl, rfl, ty50, (fun e => by cases e), rfl, rfl⟩, ⟨rfl, trivial⟩⟩ ?_
      have hE : relErr a l rk = 3 := by unfold relErr; rw [if_neg (not_not_intro hte0), if_neg (by rw [hmf]; exact Bool.noConfusion)]
      rw [hE, errAu_no (by decide)]
      exact ⟨nilS, nilS, nilS, rfl, RepAu.nil _⟩
    ·
      have hmt : mapsM l a.ranks rk = true := by simpa using h24
      obtain ⟨hm1, hm2⟩ := mapsM_iff.1 hmt
      refine K_skip ?_
      refine Q_then ?_
      refine K_seq ?_
      refine K_region ?_
      refine KV (R_loadW ty50 1 rfl rfl rfl rfl) rfl ?_
      refine K_callO (first := []) [] _ (List.Perm.refl _) c2037 rfl rfl rfl (nclone_spec a _ _ _ V2 (ha.mono (hv1.trans hv2))) ?_
      rintro _ V3 q hv3 ⟨⟨vr, ua, uc, fa, fc, ps, rfl, hcr, hps, rfl⟩, _⟩
      obtain ⟨cra, crc, rfl⟩ := hcr.shape
      have hpl : ps.length = a.rules.length := by rw [← hps]; simp
      dsimp only [List.cons_append, List.nil_append]
      refine KA (A_alloc z50) rfl fun b9 => ?_
      refine K_storeW ty50 0 rfl rfl rfl rfl rfl rfl rfl ?_
      refine K_nil ?_
      refine KQ_front 2 rfl ?_
      refine KQ_pubrow rfl fun V4 hv4 hfin => ?_
      try dsimp only [List.eraseIdx]
      refine KQ_front 2 rfl ?_
      refine KQ_pubmany (fun p hp => hab.u p.1 (by rw [← hps]; exact List.mem_map.2 ⟨p, hp, rfl⟩)) fun V5 hv5 hrv => ?_
      try dsimp only [List.eraseIdx]
      refine Q_then ?_
      refine K_seq ?_
      refine K_region ?_
      refine KV (R_move rfl) rfl ?_
      refine K_call c45 rfl rfl (clone47_spec rk _ V5 (hk.mono (hv1.trans (hv2.trans (hv3.trans (hv4.trans hv5))))) (by omega)) ?_
      rintro _ V6 hv6 hck
      obtain ⟨cka, ckc, rfl⟩ := hck.shape
      refine KV (R_fieldAddr 0 fd50_0 rfl) rfl ?_
      refine K_store ty47 0 rfl rfl rfl rfl rfl rfl ?_
      refine K_nil ?_
      refine Q_then ?_
      refine K_seq ?_
      refine K_seq ?_
      refine K_region ?_
      refine KV (R_fieldAddr 2 fd50_2 rfl) rfl ?_
      refine KV (R_loadO ty48 0 rfl rfl rfl rfl (fun _ => rfl) rfl) rfl ?_
      refine KV (R_len sl48 rfl) rfl ?_
      refine KV (R_move rfl) rfl ?_
      refine K_nil ?_
      refine Q_then ?_
      refine K_block ?_
      refine K_loopD (G := Nat) [10, 11, 34, 35, 36, 37, 38, 39, 40, 41, 42, 43, 44, 45, 46, 47, 48, 49] (fun g => [(34, .int .i64 (g : Int))]) (fun hl g => ((hl.set 1 (row (.slice ua ps.length uc) T85 3 ps.length (cellsP (qsAt l ps g)))).set 0 (blk b9 (.cells #[.slice cka rk.length ckc, .int .i64 a.states, .slice ua ps.length uc, .slice fa a.final.length fc] T50 (0, 0))))) (fun g => V6) (fun g => (g ≤ ps.length)) (fun g => ps.length - g) 0 (Nat.zero_le _) ⟨rfl, trivial⟩ (by simp only [args0, Nat.reduceAdd, del, memN, beqN, Nat.reduceBEq, cond_true, cond_false]; rfl) (by rw [qsAt_zero]; rfl) rfl ?_
      rintro k hk0
      try dsimp only at hk0
      dsimp only [List.set, List.cons_append, List.nil_append]
      refine K_seq ?_
      refine K_region ?_
      refine KV (R_cmp rfl rfl rfl) rfl ?_
      refine K_nil ?_
      refine Q_then ?_
      refine K_seq ?_
      refine K_if rfl (fun h35 => ?_) (fun h35 => ?_)
      ·
        have hk' : k < ps.length := by omega
        have hpk := hrv _ (List.getElem_mem hk')
        obtain ⟨pa, pc, hpe⟩ := hpk.1.shape
        have hcl : cellRV ps[k] = [.int .i64 ps[k].1.sym, .slice pa ps[k].1.args.length pc, .int .i64 ps[k].1.to] := by unfold cellRV; rw [hpe]
        have hmem : ps[k].1 ∈ a.rules := by rw [← hps]; exact List.mem_map.2 ⟨_, List.getElem_mem hk', rfl⟩
        obtain ⟨r1, r2, r3, _, _⟩ := hok.ru _ hmem
        have hlt : ps[k].1.sym.toNat < l.length := by omega
        obtain ⟨lb, lo, hle0, hlx0⟩ := (hl.mono (hv1.trans (hv2.trans (hv3.trans (hv4.trans (hv5.trans hv6)))))).get hlt
        cases hle0
        have hgd : l.getD ps[k].1.sym.toNat 0 = l[ps[k].1.sym.toNat] := by simp [List.getD, hlt]
        rw [← hgd] at hlx0
        refine K_skip ?_
        refine Q_then ?_
        refine K_seq ?_
        refine K_block ?_
        refine K_seq ?_
        refine KC_front 1 rfl ?_
        refine KC_openRow (fun _ h _ => absurd h (by omega)) (fun gb cap tail h1 h2 h3 h4 h5 => ?_)
        try dsimp only [List.eraseIdx]
        cases h1
        refine K_region ?_
        refine KV (R_move rfl) rfl ?_
        refine KV (R_index sl48 ty85 rfl rfl ⟨by omega, by omega⟩) rfl ?_
        refine KV (R_loadO ty85 0 rfl rfl ((flat_get cellRV_len (qsAt l ps k) tail (i := k) (by rw [qsAt_len]; omega) (by omega)).trans ((congrArg cellRV (qsAt_get hk')).trans hcl)) rfl (fun e => by cases e) rfl) rfl ?_
        refine KA (A_alloc z85) rfl fun b11 => ?_
        refine KV (R_assign rfl) rfl ?_
        refine K_storeW ty85 0 rfl rfl rfl rfl rfl rfl rfl ?_
        refine K_nil ?_
        refine Q_then ?_
        refine K_regionD (fin := true) (R := [0, 1, 2, 3, 4, 5, 6, 7, 8, 9, 10]) (by kernel_rfl) mixed (.cons_cons _ (.cons_cons _ (.cons_cons _ (.cons_cons _ (.cons_cons _ (List.nil_sublist _)))))) ?_
        refine D_val rfl rfl rfl (R_fieldAddr 2 fd50_2 rfl) ?_
        refine D_val rfl rfl rfl (R_loadO ty48 2 rfl rfl rfl rfl (fun _ => rfl) rfl) ?_
        refine D_val rfl rfl rfl (R_move rfl) ?_
        refine D_val rfl rfl rfl (R_move rfl) ?_
        refine D_val rfl rfl rfl (R_fieldAddr 0 fd85_0 rfl) ?_
        refine D_val rfl rfl rfl (R_loadO ty3 0 rfl rfl rfl rfl (fun _ => rfl) rfl) ?_
        refine D_val rfl rfl rfl (R_index sl25 ty3 rfl rfl ⟨by omega, by omega⟩) ?_
        refine D_val rfl rfl rfl (R_loadH ty3 rfl (hlx0) rfl (fun _ => rfl) rfl) ?_
        refine D_val rfl rfl rfl (R_index sl48 ty85 rfl rfl ⟨by omega, by omega⟩) ?_
        refine D_val rfl rfl rfl (R_fieldAddr 0 fd85_0 rfl) ?_
        refine D_lastStoreE ty3 1 rfl rfl rfl rfl rfl rfl (show 0 + k * 3 + 0 + 1 ≤ _ from by rw [List.size_toArray, List.length_append, cellsP_len, qsAt_len]; omega) rfl ((put_img tail hk' (by omega))) ?_
        refine KQ_front 1 rfl ?_
        refine KQ_shutRow (sz := 3) (k := ps.length) (xs := cellsP (qsAt l ps (k + 1))) h2 h3 (by rw [cellsP_len, qsAt_len]) (by rw [List.size_toArray, List.length_append, cellsP_len, qsAt_len]; rw [List.length_append, cellsP_len, qsAt_len] at h5; exact h5) (flat_take cellRV_len (qsAt l ps (k + 1)) tail (m := ps.length) (by rw [qsAt_len]; omega) |>.trans (by rw [show (qsAt l ps (k + 1)).take ps.length = qsAt l ps (k + 1) from List.take_of_length_le (by rw [qsAt_len]; omega)]; rfl)) ?_
        try dsimp only [List.eraseIdx, List.set]
        refine Q_block ?_
        refine Q_then ?_
        refine K_region ?_
        refine KV (R_add rfl rfl (by omega)) rfl ?_
        refine KV (R_move rfl) rfl ?_
        refine K_nil ?_
        refine KQ_sel [2, 0, 1, 1] rfl ?_
        refine Q_nextD (k + 1) hk' (by (try dsimp only); omega) ⟨rfl, trivial⟩ rfl rfl rfl
      ·
        have hk' : k = ps.length := by omega
        rw [hk', qsAt_full]
        refine K_exit ?_
        refine Q_then_exit ?_
        refine Q_then_exit ?_
        refine Q_block_exit ?_
        refine Q_then ?_
        refine K_seq ?_
        refine KC_front 1 rfl ?_
        refine KC_pubrow rfl fun V7 hv7 hrow => ?_
        try dsimp only [List.eraseIdx]
        have hI : RepAu V7 (imgA a l rk) (.slice cka rk.length ckc) (.slice ua ps.length uc) (.slice fa a.final.length fc) := by
          have hqs : (ps.map (imgP l)).map (·.1) = a.rules.map (imgR l) := by rw [← hps, List.map_map, List.map_map]; rfl
          refine ⟨hck.mono hv7, ⟨cellsP (ps.map (imgP l)), ?_, ?_⟩, ⟨hfin.sl.mono (hv5.trans (hv6.trans hv7)), ha.f.2⟩, ha.s, by show rk.length ≤ _; omega, by rw [show (imgA a l rk).rules.length = a.rules.length from List.length_map _]; omega, hfl⟩
          · rw [show (imgA a l rk).rules.length = ps.length from (List.length_map _).trans hpl.symm]; exact hrow.sl
          · rw [show (imgA a l rk).rules = (ps.map (imgP l)).map (·.1) from hqs.symm]
            refine repL_rv fun p hp => ?_
            obtain ⟨q, hq, rfl⟩ := List.mem_map.1 hp
            have h9 := (hrv q hq).mono (hv6.trans hv7)
            refine ⟨h9.1, h9.2.1, ?_, h9.2.2.2⟩
            have hmem : q.1 ∈ a.rules := by rw [← hps]; exact List.mem_map.2 ⟨q, hq, rfl⟩
            obtain ⟨r1, r2, r3, _, _⟩ := hok.ru _ hmem
            have hlt : q.1.sym.toNat < l.length := by omega
            show i64ok (l.getD q.1.sym.toNat 0)
            rw [show l.getD q.1.sym.toNat 0 = l[q.1.sym.toNat] by simp [List.getD, hlt]]
            exact hl.2 _ (List.getElem_mem hlt)
        refine K_region ?_
        refine KV (R_loadW ty50 0 rfl rfl rfl rfl) rfl ?_
        refine K_call c2045 rfl rfl (sortedS_spec (imgA a l rk) _ _ _ V7 hI) ?_
        rintro _ V8 hv8 ⟨s1, s2, s3, rfl, hS⟩
        obtain ⟨sr, src, rfl⟩ := hS.r.shape
        obtain ⟨sf, sfc, rfl⟩ := hS.f.shape
        obtain ⟨su, suc, rfl⟩ := hS.ushape
        refine K_storeW ty50 1 rfl rfl rfl rfl rfl rfl rfl ?_
        refine KV (R_assign rfl) rfl ?_
        refine K_nil ?_
        refine Q_then ?_
        refine K_ret ?_
        refine results_gen (rs := [.cell 6 62, .tmp 7]) (vs := [_, _]) rfl ⟨⟨_, _, _, _, _, _, 1, rfl, rfl, ty50, (fun e => by cases e), rfl, rfl⟩, ⟨rfl, trivial⟩⟩ ?_
        have hE : relErr a l rk = 0 := by unfold relErr; rw [if_neg (not_not_intro hte0), if_pos hmt]
        rw [hE, errAu_ok rfl]
        exact ⟨_, _, _, rfl, hS⟩
end Go.Proofs.X

namespace Go.Proofs.X
open Go Pal Go.Proofs
attribute [local irreducible] Pal.KO Pal.KC Pal.KQ Pal.KD

end Go.Proofs.X

namespace Go.Proofs.X
open Go Pal Go.Proofs
attribute [local irreducible] Pal.KO Pal.KC Pal.KQ Pal.KD
end Go.Proofs.X

namespace Go.Proofs.X
open Go Pal Go.Proofs
attribute [local irreducible] Pal.KO Pal.KC Pal.KQ Pal.KD
theorem c7 : callable Tryz.prog F7 = true := by kernel_rfl
theorem c34 : callable Tryz.prog F34 = true := by kernel_rfl
theorem c40 : callable Tryz.prog F40 = true := by kernel_rfl
end Go.Proofs.X

namespace Go.Proofs.X
open Go Pal Go.Proofs
attribute [local irreducible] Pal.KO Pal.KC Pal.KQ Pal.KD
theorem ty2102 : Ty Tryz.prog T2102 false 1 := .of (by kernel_rfl)
theorem ty2108 : Ty Tryz.prog T2108 false 1 := .of (by kernel_rfl)
theorem fd2111_1 : fldOk Tryz.prog T2111 1 1 = true := by kernel_rfl
theorem fd2115_0 : fldOk Tryz.prog T2115 0 0 = true := by kernel_rfl
theorem fd2115_2 : fldOk Tryz.prog T2115 2 3 = true := by kernel_rfl
theorem z2115 : zeroOk Tryz.prog T2115 (.agg #[.int .i64 0, .int .i64 0, .int .i64 0, .int .i64 0, .int .i64 0]) := .of (by kernel_rfl)
theorem ar2113 : Tryz.prog.underlying T2113 = some (.array 2 T3) := by kernel_rfl
theorem c2128 : callable Tryz.prog F2128 = true := by kernel_rfl
theorem mt2108 : Tryz.prog.underlying T2108 = some (.map T3 T2115) := by kernel_rfl
theorem wcmp_spec (c e : Ch) (H : View) : Sat Tryz.prog F2128 #[chV c, chV e] H (fun r _ => r = .int .i64 (cmpL (keyC c) (keyC e))) := by
  refine enterO (n := 26) (args := [.agg #[.int .i64 c.s, .int .i64 c.p, .int .i64 c.q, .int .i64 c.i, .int .i64 c.k], .agg #[.int .i64 e.s, .int .i64 e.p, .int .i64 e.q, .int .i64 e.i, .int .i64 e.k]]) Tryz.func80 rfl rfl rfl fun w0 => ?_
  refine K_seq ?_
  refine K_region ?_
  refine KA (A_box rfl) rfl fun b2 => ?_
  refine KA (A_box rfl) rfl fun b3 => ?_
  refine KV (R_assign rfl) rfl ?_
  refine K_nil ?_
  refine Q_then ?_
  refine K_seq ?_
  refine K_regionD (fin := false) (R := [0, 1, 2, 3, 5, 6, 7, 8, 9, 10, 12, 13, 14, 15, 16, 17, 4, 11, 18, 19, 20, 21]) (by kernel_rfl) mixed (.cons_cons _ (.cons_cons _ (List.nil_sublist _))) ?_
  refine D_val rfl rfl rfl (R_fieldAddr 0 fd2115_0 rfl) ?_
  refine D_val rfl rfl rfl (R_loadO ty3 1 rfl rfl rfl rfl (fun _ => rfl) rfl) ?_
  refine D_val rfl rfl rfl (R_fieldAddr 0 fd2115_0 rfl) ?_
  refine D_val rfl rfl rfl (R_loadO ty3 0 rfl rfl rfl rfl (fun _ => rfl) rfl) ?_
  refine D_val rfl rfl rfl (R_fieldAddr 3 fd2115_2 rfl) ?_
  refine D_val rfl rfl rfl (R_indexArr ar2113 ty3 rfl rfl ⟨by omega, by omega⟩) ?_
  refine D_val rfl rfl rfl (R_loadO ty3 1 rfl rfl rfl rfl (fun _ => rfl) rfl) ?_
  refine D_val rfl rfl rfl (R_fieldAddr 3 fd2115_2 rfl) ?_
  refine D_val rfl rfl rfl (R_indexArr ar2113 ty3 rfl rfl ⟨by omega, by omega⟩) ?_
  refine D_val rfl rfl rfl (R_loadO ty3 0 rfl rfl rfl rfl (fun _ => rfl) rfl) ?_
  refine D_val rfl rfl rfl (R_fieldAddr 3 fd2115_2 rfl) ?_
  refine D_val rfl rfl rfl (R_indexArr ar2113 ty3 rfl rfl ⟨by omega, by omega⟩) ?_
  refine D_val rfl rfl rfl (R_loadO ty3 1 rfl rfl rfl rfl (fun _ => rfl) rfl) ?_
  refine D_val rfl rfl rfl (R_fieldAddr 3 fd2115_2 rfl) ?_
  refine D_val rfl rfl rfl (R_indexArr ar2113 ty3 rfl rfl ⟨by omega, by omega⟩) ?_
  refine D_val rfl rfl rfl (R_loadO ty3 0 rfl rfl rfl rfl (fun _ => rfl) rfl) ?_
  refine D_call rfl rfl c2071 rfl ⟨⟨0, rfl⟩, ⟨1, rfl⟩, trivial⟩ (ccmp_spec c.s e.s H) ?_
  rintro _ V1 hv1 rfl
  refine D_call rfl rfl c2071 rfl ⟨⟨0, rfl⟩, ⟨1, rfl⟩, trivial⟩ (ccmp_spec c.i e.i V1) ?_
  rintro _ V2 hv2 rfl
  refine D_call rfl rfl c2071 rfl ⟨⟨0, rfl⟩, ⟨1, rfl⟩, trivial⟩ (ccmp_spec c.k e.k V2) ?_
  rintro _ V3 hv3 rfl
  refine D_alloc rfl rfl rfl (A_buildSlice (vs := [.int .i64 (if c.s < e.s then -1 else if e.s < c.s then 1 else 0), .int .i64 (if c.i < e.i then -1 else if e.i < c.i then 1 else 0), .int .i64 (if c.k < e.k then -1 else if e.k < c.k then 1 else 0)]) sl25 ty3 z3 rfl rfl (by simp [Value.cells]) (by simp) rfl (by decide)) fun b24 => ?_
  refine D_callO (first := []) [_] _ rfl rfl c2076 rfl rfl (List.Perm.refl _) ⟨⟨0, rfl⟩, ⟨1, rfl⟩, trivial⟩ (or_spec [(if c.s < e.s then -1 else if e.s < c.s then 1 else 0), (if c.i < e.i then -1 else if e.i < c.i then 1 else 0), (if c.k < e.k then -1 else if e.k < c.k then 1 else 0)] b24 V3 (by simp)) ?_
  rintro _ V4 q hle4 ⟨rfl, rfl⟩
  dsimp only [List.nil_append]
  refine D_val rfl rfl rfl (R_assign rfl) ?_
  refine D_done ?_
  refine Q_then ?_
  refine K_ret ?_
  refine results_gen (rs := [.tmp 4]) (vs := [_]) rfl ⟨rfl, trivial⟩ ?_
  refine congrArg (Value.int .i64) ?_
  unfold keyC
  simp only [cmpL]
  by_cases h1 : c.s < e.s
  · simp [h1]
  · by_cases h2 : e.s < c.s
    · simp [h1, h2]
    · by_cases h3 : c.i < e.i
      · simp [h1, h2, h3]
      · by_cases h4 : e.i < c.i
        · simp [h1, h2, h3, h4]
        · by_cases h5 : c.k < e.k
          · simp [h1, h2, h3, h4, h5]
          · by_cases h6 : e.k < c.k <;> simp [h1, h2, h3, h4, h5, h6]

theorem wless_spec (x y : Int) (b1 tb m : Nat) (kvs : KVs) (f : Int → Option Ch) (sv : Value) (H : View) (hA : At H b1 0 [ptr tb]) (hn : At H tb 0 [sv, mp m]) (hm : H m = some (mapOb kvs)) (hf : ChP kvs f) : Sat Tryz.prog F2127 ([] ++ [Value.int .i64 x, .int .i64 y] ++ [ptr b1]).toArray H (fun r _ => r = .int .i64 (cmpL (keyC ((f x).getD ch0)) (keyC ((f y).getD ch0)))) := by
  have hn1 := hn.one (j := 1) rfl
  refine enterO (n := 19) (args := [.int .i64 x, .int .i64 y, ptr b1]) Tryz.func79 rfl rfl rfl fun w0 => ?_
  refine K_seq ?_
  refine K_region ?_
  refine KV (R_assign rfl) rfl ?_
  refine K_nil ?_
  refine Q_then ?_
  refine K_seq ?_
  refine K_regionD (fin := false) (R := [0, 1, 2, 3, 4, 5, 6, 7, 8, 9, 10, 11, 12, 13]) (by kernel_rfl) mixed (List.nil_sublist _) ?_
  refine D_val rfl rfl rfl (R_loadH ty2102 rfl (hA) rfl (fun _ => rfl) rfl) ?_
  refine D_val rfl rfl rfl (R_nilCheck rfl) ?_
  refine D_val rfl rfl rfl (R_fieldAddr 1 fd2111_1 rfl) ?_
  refine D_val rfl rfl rfl (R_loadH ty2108 rfl (hn1) rfl (fun _ => rfl) rfl) ?_
  refine D_val rfl rfl rfl (R_move rfl) ?_
  refine D_val rfl rfl rfl (R_lookV mt2108 (by kernel_rfl) z2115 rfl rfl (.inl hm) (hf.val x)) ?_
  refine D_val rfl rfl rfl (R_loadH ty2102 rfl (hA) rfl (fun _ => rfl) rfl) ?_
  refine D_val rfl rfl rfl (R_nilCheck rfl) ?_
  refine D_val rfl rfl rfl (R_fieldAddr 1 fd2111_1 rfl) ?_
  refine D_val rfl rfl rfl (R_loadH ty2108 rfl (hn1) rfl (fun _ => rfl) rfl) ?_
  refine D_val rfl rfl rfl (R_move rfl) ?_
  refine D_val rfl rfl rfl (R_lookV mt2108 (by kernel_rfl) z2115 rfl rfl (.inl hm) (hf.val y)) ?_
  refine D_call rfl rfl c2128 rfl trivial (wcmp_spec ((f x).getD ch0) ((f y).getD ch0) H) ?_
  rintro _ V1 hv1 rfl
  refine D_val rfl rfl rfl (R_assign rfl) ?_
  refine D_done ?_
  refine Q_then ?_
  refine K_ret ?_
  refine results_gen (rs := [.tmp 5]) (vs := [_]) rfl ⟨rfl, trivial⟩ ?_
  rfl
end Go.Proofs.X

namespace Go.Proofs.X
open Go Pal Go.Proofs
attribute [local irreducible] Pal.KO Pal.KC Pal.KQ Pal.KD
theorem c2126 : callable Tryz.prog F2126 = true := by kernel_rfl
theorem c2127 : callable Tryz.prog F2127 = true := by kernel_rfl
theorem sortW_spec (gf : Nat) (hg : callable Tryz.prog gf = true) (cap0 : List Value) (H : View) (key : Int → List Int) (hord : ∀ x y V, VLe H V → Sat Tryz.prog gf ([] ++ [Value.int .i64 x, .int .i64 y] ++ cap0).toArray V (fun r _ => r = .int .i64 (cmpL (key x) (key y)))) (xs : List Int) (v : Value) (hlen : xs.length ≤ 1099511627776) :
    SatO Tryz.prog F2126 #[v, .func (.func gf) #[] cap0.toArray] H [row v T3 1 xs.length (ints xs)] (fun r H' q => r = .tuple #[] ∧ H' = H ∧ ∃ ys, ys.Perm xs ∧ ys.Pairwise (fun x y => cmpL (key x) (key y) ≤ 0) ∧ q = [row v T3 1 ys.length (ints ys)]) :=
  sortIntsBy (P := Tryz.prog) Tryz.layW gf hg cap0 H T3 key hord xs v (by omega)

theorem wreached_spec (f : Int → Option Ch) (R0 : List Int) (kids : List Tb) (b n : Nat) (H : View) (h : RepTb H (.mk f R0 kids) b) (hbd : ∀ q, (f q).isSome = true → 0 ≤ q ∧ q < (n : Int)) (hn8 : n ≤ 65536) : Sat Tryz.prog F2120 #[ptr b] H (fun r H' => ∃ R, IsR f R ∧ SI H' r R ∧ R.length ≤ n) := by
  cases h with | mk _ _ _ _ m kvs a cap ps hb hm hf hA hr =>
  have hn1 := hb.one (j := 1) rfl
  have hkl : kvs.length ≤ n := by
    have h1 := length_le_of_subset (xs := kvs.map (·.1)) (ys := idxs n) hf.1 fun q hq => idxs_mem.2 (hbd q ((hf.keys q).1 hq))
    simpa [idxs] using h1
  refine enterO (n := 22) (args := [ptr b]) Tryz.func37 rfl rfl rfl fun w0 => ?_
  refine K_seq ?_
  refine K_region ?_
  refine KA (A_box rfl) rfl fun b1 => ?_
  refine KV (R_assign rfl) rfl ?_
  refine K_nil ?_
  refine KQ_front 0 rfl ?_
  try dsimp only [List.eraseIdx]
  refine KQ_pubF fun U hU hb1 => ?_
  skip
  have hA1 : At U b1 0 [ptr b] := At.of hb1
  have hm1 := hU _ _ hm
  refine Q_then ?_
  refine K_seq ?_
  refine K_region ?_
  refine KV (R_assign rfl) rfl ?_
  refine K_nil ?_
  refine Q_then ?_
  refine K_seq ?_
  refine K_seq ?_
  refine K_region ?_
  refine KV (R_loadH ty2102 rfl (hA1) rfl (fun _ => rfl) rfl) rfl ?_
  refine KV (R_nilCheck rfl) rfl ?_
  refine KV (R_fieldAddr 1 fd2111_1 rfl) rfl ?_
  refine KV (R_loadH ty2108 rfl (hn1.mono hU) rfl (fun _ => rfl) rfl) rfl ?_
  refine K_range mt2108 rfl (.inl hm1) rfl fun b9 => ?_
  refine K_nil ?_
  refine Q_then ?_
  refine K_block ?_
  refine K_nilrow T3 1 ?_
  refine K_loopD (G := List Nat × Value) [3, 4, 10, 11, 12, 13, 14, 15, 16, 17] (fun g => [(3, g.2)]) (fun hl g => ((hl.set 1 (blk b9 (itO m kvs.length g.1))).set 0 (row g.2 T3 1 g.1.length (ints (keysAt kvs g.1))))) (fun g => U) (fun g => (g.1.Nodup) ∧ (∀ i ∈ g.1, i < kvs.length) ∧ (∃ wa wc, g.2 = .slice wa g.1.length wc)) (fun g => kvs.length - g.1.length) ([], nilS) ⟨List.nodup_nil, fun i hi => (by cases hi), none, 0, rfl⟩ ⟨rfl, trivial⟩ (by simp only [args0, Nat.reduceAdd, del, memN, beqN, Nat.reduceBEq, cond_true, cond_false]; rfl) rfl rfl ?_
  rintro ⟨seen, w⟩ ⟨hsn, hslt, hw⟩
  dsimp only at hsn hslt hw
  dsimp only [List.set, List.cons_append, List.nil_append]
  obtain ⟨wa, wc, rfl⟩ := hw
  have hsl3 := seen_len hsn hslt
  refine K_seq ?_
  refine K_region ?_
  refine K_next 1 rfl rfl (.inl hm1) rfl (fun hall => ?_) (fun i q u hki hni => ?_)
  ·
    refine KV (R_extract rfl rfl) rfl ?_
    refine K_nil ?_
    refine Q_then ?_
    refine K_seq ?_
    refine K_ifF rfl ?_
    refine K_exit ?_
    refine Q_then_exit ?_
    refine Q_then_exit ?_
    refine Q_block_exit ?_
    refine Q_then ?_
    refine K_seq ?_
    refine K_region ?_
    refine KV (R_move rfl) rfl ?_
    refine KV (R_makeFunc rfl rfl) rfl ?_
    have hso := sortW_spec F2127 c2127 [ptr b1] U (fun x => keyC ((f x).getD ch0)) (fun x y V hV => wless_spec x y b1 b m kvs f _ V (hA1.mono hV) (hb.mono (hU.trans hV)) (hV _ _ hm1) hf) (keysAt kvs seen) (.slice wa seen.length wc) (by rw [keysAt_len]; omega)
    rw [keysAt_len] at hso
    refine KO_sel [0, 0] rfl ?_
    refine K_callO (first := []) [_] _ (List.Perm.refl _) c2126 rfl rfl rfl hso ?_
    rintro _ V2 q20 hv2 ⟨rfl, rfl, ys, hp, hs, rfl⟩
    dsimp only [List.cons_append, List.nil_append]
    refine K_nil ?_
    refine Q_then ?_
    refine K_seq ?_
    refine K_region ?_
    refine KV (R_move rfl) rfl ?_
    refine KV (R_assign rfl) rfl ?_
    refine K_nil ?_
    refine Q_then ?_
    refine K_ret ?_
    refine KQ_pubrow rfl fun Up hUp hrow => ?_
    refine results_sel [] rfl (rs := [.tmp 2]) (vs := [_]) rfl ⟨rfl, trivial⟩ ?_
    have hpk := hp.trans (keysAt_all hsn hslt hall)
    have hmem : ∀ q, q ∈ ys ↔ (f q).isSome = true := fun q => hpk.mem_iff.trans (hf.keys q)
    refine ⟨ys, isR_of hf hpk hs, ⟨hrow.sl, fun x hx => ?_⟩, ?_⟩
    · have := hbd x ((hmem x).1 hx)
      simp only [i64ok]; omega
    · have := hpk.length_eq
      rw [List.length_map] at this
      omega
  ·
    obtain ⟨hnd2, hlt2, hle2⟩ := seen_snoc hsn hslt hni (List.getElem?_eq_some_iff.1 hki).1
    refine KV (R_extract rfl rfl) rfl ?_
    refine K_nil ?_
    refine Q_then ?_
    refine K_seq ?_
    refine K_ifT rfl ?_
    refine K_skip ?_
    refine Q_then ?_
    refine K_block ?_
    refine K_seq ?_
    refine K_region ?_
    refine KV (R_entry 1 rfl rfl (.inl hm1) hki) rfl ?_
    refine KV (R_extract rfl rfl) rfl ?_
    refine KV (R_assign rfl) rfl ?_
    refine K_nil ?_
    refine Q_then ?_
    refine K_region ?_
    refine KV (R_move rfl) rfl ?_
    refine KV (R_move rfl) rfl ?_
    refine KA (A_buildSlice (vs := [.int .i64 q]) sl25 ty3 z3 rfl rfl (by simp [Value.cells]) (by simp) rfl (by decide)) rfl fun b16 => ?_
    refine K_append1 0 ap25 rfl rfl rfl rfl rfl rfl ⟨by omega, by omega⟩ rfl fun a17 k17 hn17 => ?_
    refine KV (R_assign rfl) rfl ?_
    refine K_nil ?_
    refine Q_block ?_
    refine Q_nextD (seen ++ [i], .slice a17 (seen.length + 1) k17) ⟨hnd2, hlt2, _, _, by dsimp only; rw [List.length_append]; rfl⟩ (by dsimp only; rw [List.length_append]; simp only [List.length_cons, List.length_nil]; omega) ⟨rfl, trivial⟩ rfl (by dsimp only [List.set]; rw [List.length_append, keysAt_snoc hki, ints_snoc]; rfl) rfl
end Go.Proofs.X

namespace Go.Proofs.X
open Go Pal Go.Proofs
attribute [local irreducible] Pal.KO Pal.KC Pal.KQ Pal.KD
theorem ty2115 : Ty Tryz.prog T2115 true 5 := .of (by kernel_rfl)
theorem fd2101_0 : fldOk Tryz.prog T2101 0 0 = true := by kernel_rfl
theorem consider_spec (d : Dt) (S tb m : Nat) (w1 w2 w3 sv cv : Value) (c : Ch) (at_ : Int) (kvs : KVs) (f : Int → Option Ch) (H : View) (hd : RepDt H d w1 w2 w3) (hS : At H S 0 [w1, w2, w3, sv]) (hn : At H tb 0 [cv, mp m]) (hf : ChP kvs f) (hs : 0 ≤ c.s ∧ c.s < (d.to.length : Int)) (hat : 0 ≤ at_ ∧ at_ < ((d.to.getD c.s.toNat []).length : Int)) :
    SatO Tryz.prog F2125 #[ptr S, ptr tb, chV c, .int .i64 at_] H [blk m (mapOb kvs)] (fun _ _ q => ∃ kvs', q = [blk m (mapOb kvs')] ∧ ChP kvs' (consF f (c, atI d c.s at_))) := by
  have hS2 := hS.one (j := 2) rfl
  have hn1 := hn.one (j := 1) rfl
  have hst : c.s.toNat < d.to.length := by omega
  have hgd : d.to.getD c.s.toNat [] = d.to[c.s.toNat] := by simp [List.getD, hst]
  rw [hgd] at hat
  obtain ⟨ta, tc, rfl⟩ := hd.t.shape
  obtain ⟨rb, ro, xa, xcp, hre, hrow, hrS⟩ := hd.t.get hst
  cases hre
  have hat2 : at_.toNat < (d.to[c.s.toNat]).length := by omega
  obtain ⟨vb, vo, hve, hval⟩ := hrS.get hat2
  cases hve
  rw [← atI_is hst hat2] at hval
  refine enterO (n := 46) (args := [ptr S, ptr tb, .agg #[.int .i64 c.s, .int .i64 c.p, .int .i64 c.q, .int .i64 c.i, .int .i64 c.k], .int .i64 at_]) Tryz.func77 rfl rfl rfl fun w0 => ?_
  refine K_seq ?_
  refine K_region ?_
  refine KA (A_box rfl) rfl fun b6 => ?_
  refine K_nil ?_
  refine Q_then ?_
  refine K_seq ?_
  refine K_regionD (fin := false) (R := [0, 1, 2, 3, 4, 5, 6, 7, 8, 9, 10, 11, 12]) (by kernel_rfl) mixed (.cons_cons _ (.cons_cons _ (List.nil_sublist _))) ?_
  refine D_val rfl rfl rfl (R_move rfl) ?_
  refine D_val rfl rfl rfl (R_nilCheck rfl) ?_
  refine D_val rfl rfl rfl (R_fieldAddr 0 fd2101_0 rfl) ?_
  refine D_val rfl rfl rfl (R_fieldAddr 2 fd54_2 rfl) ?_
  refine D_val rfl rfl rfl (R_loadH ty44 rfl (hS2) rfl (fun _ => rfl) rfl) ?_
  refine D_val rfl rfl rfl (R_fieldAddr 0 fd2115_0 rfl) ?_
  refine D_val rfl rfl rfl (R_loadO ty3 0 rfl rfl rfl rfl (fun _ => rfl) rfl) ?_
  refine D_val rfl rfl rfl (R_index sl44 ty25 rfl rfl ⟨hs.1, hs.2⟩) ?_
  refine D_val rfl rfl rfl (R_loadH ty25 rfl (hrow) rfl (fun _ => rfl) rfl) ?_
  refine D_val rfl rfl rfl (R_move rfl) ?_
  refine D_val rfl rfl rfl (R_index sl25 ty3 rfl rfl ⟨hat.1, hat.2⟩) ?_
  refine D_val rfl rfl rfl (R_loadH ty3 rfl (hval) rfl (fun _ => rfl) rfl) ?_
  refine D_val rfl rfl rfl (R_assign rfl) ?_
  refine D_done ?_
  refine Q_then ?_
  refine K_seq ?_
  refine K_region ?_
  refine KV (R_move rfl) rfl ?_
  refine KV (R_nilCheck rfl) rfl ?_
  refine KV (R_fieldAddr 1 fd2111_1 rfl) rfl ?_
  refine KV (R_loadH ty2108 rfl (hn1) rfl (fun _ => rfl) rfl) rfl ?_
  refine KV (R_move rfl) rfl ?_
  refine KV (R_lookT mt2108 (by kernel_rfl) z2115 rfl rfl (MapAt.at 1 rfl) (hf.look (atI d c.s at_))) rfl ?_
  refine KV (R_move rfl) rfl ?_
  refine KV (R_extract rfl rfl) rfl ?_
  refine KV (R_extract rfl rfl) rfl ?_
  refine KA (A_alloc z2115) rfl fun b9 => ?_
  refine K_storeW ty2115 0 rfl rfl rfl rfl rfl rfl rfl ?_
  refine KV (R_assign rfl) rfl ?_
  refine K_nil ?_
  refine Q_then ?_
  refine K_seq ?_
  refine K_region ?_
  refine KV (R_move rfl) rfl ?_
  refine KV (R_not rfl) rfl ?_
  refine KV (R_move rfl) rfl ?_
  refine K_splitB ?_ ?_
  ·
    intro h34
    have hno : f (atI d c.s at_) = none := by
      cases e : f (atI d c.s at_) with
      | none => rfl
      | some o => rw [e] at h34; cases h34
    refine K_gno rfl rfl rfl rfl ?_
    refine K_gno rfl rfl rfl rfl ?_
    refine K_gno rfl rfl rfl rfl ?_
    refine K_gno rfl rfl rfl rfl ?_
    refine KV (R_pickT rfl rfl) rfl ?_
    refine K_nil ?_
    refine Q_then ?_
    refine K_ifT rfl ?_
    refine K_regionD (fin := true) (R := [0, 1, 2, 3, 4, 5, 6]) (by kernel_rfl) mixed (.cons_cons _ (.cons_cons _ (.cons_cons _ (List.nil_sublist _)))) ?_
    refine D_val rfl rfl rfl (R_move rfl) ?_
    refine D_val rfl rfl rfl (R_nilCheck rfl) ?_
    refine D_val rfl rfl rfl (R_fieldAddr 1 fd2111_1 rfl) ?_
    refine D_val rfl rfl rfl (R_loadH ty2108 rfl (by first | exact hn1 | exact hn1.mono hv1) rfl (fun _ => rfl) rfl) ?_
    refine D_val rfl rfl rfl (R_move rfl) ?_
    refine D_val rfl rfl rfl (R_loadW ty2115 1 rfl rfl rfl rfl) ?_
    refine D_lastSet mt2108 (by kernel_rfl) 2 rfl rfl rfl rfl rfl rfl ?_
    refine Q_fall ?_
    refine results_sel [2] rfl (rs := []) (vs := []) rfl trivial ?_
    exact ⟨_, rfl, by rw [consF_none hno]; exact hf.set _ c⟩
  ·
    intro h34
    obtain ⟨o, ho⟩ : ∃ o, f (atI d c.s at_) = some o := by
      cases e : f (atI d c.s at_) with
      | none => rw [e] at h34; cases h34
      | some o => exact ⟨o, rfl⟩
    refine K_gyes rfl rfl ?_
    refine KV (R_loadW ty2115 1 rfl rfl rfl rfl) rfl ?_
    refine K_gyes rfl rfl ?_
    refine KV (R_loadW ty2115 0 rfl rfl rfl rfl) rfl ?_
    refine K_gyes rfl rfl ?_
    refine K_call c2128 rfl rfl (wcmp_spec c ((f (atI d c.s at_)).getD ch0) H) ?_
    rintro _ V1 hv1 rfl
    rw [ho]
    refine K_gyes rfl rfl ?_
    refine KV (R_cmp rfl rfl rfl) rfl ?_
    refine KV (R_pickF rfl rfl) rfl ?_
    refine K_nil ?_
    refine Q_then ?_
    refine K_if rfl (fun h39 => ?_) (fun h39 => ?_)
    ·
      refine K_regionD (fin := true) (R := [0, 1, 2, 3, 4, 5, 6]) (by kernel_rfl) mixed (.cons_cons _ (.cons_cons _ (.cons_cons _ (List.nil_sublist _)))) ?_
      refine D_val rfl rfl rfl (R_move rfl) ?_
      refine D_val rfl rfl rfl (R_nilCheck rfl) ?_
      refine D_val rfl rfl rfl (R_fieldAddr 1 fd2111_1 rfl) ?_
      refine D_val rfl rfl rfl (R_loadH ty2108 rfl (by first | exact hn1 | exact hn1.mono hv1) rfl (fun _ => rfl) rfl) ?_
      refine D_val rfl rfl rfl (R_move rfl) ?_
      refine D_val rfl rfl rfl (R_loadW ty2115 1 rfl rfl rfl rfl) ?_
      refine D_lastSet mt2108 (by kernel_rfl) 2 rfl rfl rfl rfl rfl rfl ?_
      refine Q_fall ?_
      refine results_sel [2] rfl (rs := []) (vs := []) rfl trivial ?_
      exact ⟨_, rfl, by rw [consF_lt ho h39]; exact hf.set _ c⟩
    ·
      refine K_skip ?_
      refine Q_fall ?_
      refine results_sel [2] rfl (rs := []) (vs := []) rfl trivial ?_
      exact ⟨_, rfl, by rw [consF_ge ho h39]; exact hf⟩
end Go.Proofs.X
