/-
  Part of the proof: rules for walks, contracts of the functions that the statements reach, plain laws. Own work. No statement of the seat is proved here.
-/
import Derived.Test.YtdclodapkhgabaaGreatPalPr
import Derived.Test.YtdclodapkhgabaaGreatPart2
namespace Go.Proofs.X
open Go Pal Go.Proofs
attribute [local irreducible] Pal.KO Pal.KC Pal.KQ Pal.KD

set_option maxHeartbeats 1000000 in
theorem both_spec (a b : Au) (v1 v2 v3 w1 w2 w3 : Value) (H : View) (ha : RepAu H a v1 v2 v3) (hb : RepAu H b w1 w2 w3) (hoA : AuOk a) (hoB : AuOk b) (hrr : a.ranks = b.ranks) (hs : a.states * b.states ≤ 256) (hu : a.rules.length * b.rules.length ≤ 65536) (hf1 : a.final.length ≤ 1048576) (hf2 : b.final.length ≤ 1048576) : Sat Tryz.prog F2034 #[.agg #[v1, .int .i64 a.states, v2, v3], .agg #[w1, .int .i64 b.states, w2, w3]] H (fun r H' => ∃ v1 v2 v3, r = .agg #[v1, .int .i64 (a.states * b.states), v2, v3] ∧ RepAu H' (sortedM (botA a b)) v1 v2 v3) := by
  obtain ⟨ar, arc, rfl⟩ := ha.r.shape
  obtain ⟨af, afc, rfl⟩ := ha.f.shape
  obtain ⟨au, auc, rfl⟩ := ha.ushape
  obtain ⟨br, brc, rfl⟩ := hb.r.shape
  obtain ⟨bf, bfc, rfl⟩ := hb.f.shape
  obtain ⟨bu, buc, rfl⟩ := hb.ushape
  have hsA := hoA.st
  have hsB := hoB.st
  have haul := hoA.ul
  have hbul := hoB.ul
  have hsn : 0 ≤ a.states * b.states := Int.mul_nonneg hsA.1 hsB.1
  have haA := hoA.args2
  have haB := hoB.args2
  refine enterO (n := 129) (args := [.agg #[.slice ar a.ranks.length arc, .int .i64 a.states, .slice au a.rules.length auc, .slice af a.final.length afc], .agg #[.slice br b.ranks.length brc, .int .i64 b.states, .slice bu b.rules.length buc, .slice bf b.final.length bfc]]) Tryz.func45 rfl rfl rfl fun w0 => ?_
  refine K_seq ?_
  refine K_region ?_
  refine KA (A_box rfl) rfl fun b2 => ?_
  refine KA (A_box rfl) rfl fun b3 => ?_
  refine KA (A_alloc z42) rfl fun b4 => ?_
  refine K_nil ?_
  refine Q_then ?_
  refine K_seq ?_
  refine K_region ?_
  refine KV (R_fieldAddr 0 fd42_0 rfl) rfl ?_
  refine KV (R_loadO ty25 2 rfl rfl rfl rfl (fun _ => rfl) rfl) rfl ?_
  refine KV (R_fieldAddr 1 fd42_1 rfl) rfl ?_
  refine KV (R_loadO ty3 2 rfl rfl rfl rfl (fun _ => rfl) rfl) rfl ?_
  refine KV (R_fieldAddr 1 fd42_1 rfl) rfl ?_
  refine KV (R_loadO ty3 1 rfl rfl rfl rfl (fun _ => rfl) rfl) rfl ?_
  refine KV (R_mul rfl rfl (by omega)) rfl ?_
  refine KV (R_build z42 pl42 rfl rfl) rfl ?_
  refine KA (A_alloc z42) rfl fun b5 => ?_
  refine K_storeW ty42 0 rfl rfl rfl rfl rfl rfl rfl ?_
  refine K_nil ?_
  refine Q_then ?_
  refine K_seq ?_
  refine K_seq ?_
  refine K_nilrow T100 3 ?_
  refine K_region ?_
  refine KV (R_assign rfl) rfl ?_
  refine K_nil ?_
  refine Q_then ?_
  refine K_block ?_
  refine K_loopD (G := Nat × View × Value × List Value) [6, 7, 8, 9, 10, 11, 22, 23, 24, 25, 26, 27, 28, 29, 30, 31, 32, 33, 34, 35, 36, 37, 38, 39, 40, 41, 42, 43, 44, 45, 46, 47, 48, 49, 50, 51, 52, 53, 54, 55, 56, 57, 58, 59, 60, 61, 62, 63, 64, 65, 66, 67, 68, 69, 70, 71, 72, 73, 74, 75, 76, 77, 78, 79, 80, 81, 82, 83, 84, 85, 86, 87, 88, 89, 90, 91, 92, 93] (fun g => [(6, .int .i64 (g.1 : Int))]) (fun hl g => ((hl.set 0 (row g.2.2.1 T100 3 (prods b.states (a.rules.take g.1) b.rules).length g.2.2.2)).set 1 (blk b5 (.cells #[.slice ar a.ranks.length arc, .int .i64 (a.states * b.states), g.2.2.1, nilS] T42 (0, 0))))) (fun g => g.2.1) (fun g => (g.1 ≤ a.rules.length) ∧ (VLe H g.2.1) ∧ (RepL (RepR g.2.1) 3 (prods b.states (a.rules.take g.1) b.rules) g.2.2.2) ∧ (∃ ad cp, g.2.2.1 = .slice ad (prods b.states (a.rules.take g.1) b.rules).length cp)) (fun g => a.rules.length - g.1) (0, H, nilS, []) ⟨Nat.zero_le _, VLe.refl _, .nil, _, _, rfl⟩ ⟨rfl, trivial⟩ (by simp only [args0, Nat.reduceAdd, del, memN, beqN, Nat.reduceBEq, cond_true, cond_false]; rfl) rfl rfl ?_
  rintro ⟨i, V, w, cells⟩ ⟨hi, hV, hC, hw⟩
  dsimp only at hi hV hC hw
  dsimp only [List.set, List.cons_append, List.nil_append]
  refine K_seq ?_
  refine K_seq ?_
  refine K_region ?_
  refine KV (R_move rfl) rfl ?_
  refine KV (R_fieldAddr 2 fd42_2 rfl) rfl ?_
  refine KV (R_loadO ty40 4 rfl rfl rfl rfl (fun _ => rfl) rfl) rfl ?_
  refine KV (R_len sl40 rfl) rfl ?_
  refine KV (R_cmp rfl rfl rfl) rfl ?_
  refine K_nil ?_
  refine Q_then ?_
  refine K_if rfl (fun h26 => ?_) (fun h26 => ?_)
  ·
    have hi' : i < a.rules.length := by omega
    obtain ⟨xb, xo, xq, xx, xy, xe, xc, xs, xt, xw, xl⟩ := (ha.mono hV).rule hi'
    cases xe
    obtain ⟨k1, k2, k3, k4, k5, k6⟩ := hoA.ru _ (List.getElem_mem hi')
    refine K_skip ?_
    refine Q_then ?_
    refine K_seq ?_
    refine K_block ?_
    refine K_seq ?_
    refine K_region ?_
    refine KV (R_assign rfl) rfl ?_
    refine K_nil ?_
    refine Q_then ?_
    refine K_block ?_
    have hE0 : prods b.states (a.rules.take i) b.rules ++ prodJ b.states a.rules[i] (b.rules.take 0) = prods b.states (a.rules.take i) b.rules := by simp [prodJ, symR]
    refine K_loopD (G := Nat × View × Value × List Value) [7, 8, 9, 10, 11, 29, 30, 31, 32, 33, 34, 35, 36, 37, 38, 39, 40, 41, 42, 43, 44, 45, 46, 47, 48, 49, 50, 51, 52, 53, 54, 55, 56, 57, 58, 59, 60, 61, 62, 63, 64, 65, 66, 67, 68, 69, 70, 71, 72, 73, 74, 75, 76, 77, 78, 79, 80, 81, 82, 83, 84, 85, 86, 87, 88, 89, 90, 91, 92, 93] (fun g => [(7, .int .i64 (g.1 : Int))]) (fun hl g => ((hl.set 0 (row g.2.2.1 T100 3 (prods b.states (a.rules.take i) b.rules ++ prodJ b.states a.rules[i] (b.rules.take g.1)).length g.2.2.2)).set 1 (blk b5 (.cells #[.slice ar a.ranks.length arc, .int .i64 (a.states * b.states), g.2.2.1, nilS] T42 (0, 0))))) (fun g => g.2.1) (fun g => (g.1 ≤ b.rules.length) ∧ (VLe V g.2.1) ∧ (RepL (RepR g.2.1) 3 (prods b.states (a.rules.take i) b.rules ++ prodJ b.states a.rules[i] (b.rules.take g.1)) g.2.2.2) ∧ (∃ ad cp, g.2.2.1 = .slice ad (prods b.states (a.rules.take i) b.rules ++ prodJ b.states a.rules[i] (b.rules.take g.1)).length cp)) (fun g => b.rules.length - g.1) (0, V, w, cells) ⟨Nat.zero_le _, VLe.refl _, by rw [hE0]; exact hC, by rw [hE0]; exact hw⟩ ⟨rfl, trivial⟩ (by simp only [args0, Nat.reduceAdd, del, memN, beqN, Nat.reduceBEq, cond_true, cond_false]; rfl) (by dsimp only [List.set]; rw [hE0]; try rfl) rfl ?_
    rintro ⟨j, V2, w2, cells2⟩ ⟨hj, hV2, hC2, hw2⟩
    dsimp only at hj hV2 hC2 hw2
    dsimp only [List.set, List.cons_append, List.nil_append]
    obtain ⟨w2a, w2c, rfl⟩ := hw2
    have hb2 : (prods b.states (a.rules.take i) b.rules ++ prodJ b.states a.rules[i] (b.rules.take j)).length ≤ 131072 := by
      rw [List.length_append]
      have h1 := prods_len b.states b.rules (a.rules.take i)
      have h2 := prodJ_len b.states a.rules[i] (b.rules.take j)
      rw [List.length_take] at h1 h2
      have h3 : min i a.rules.length * b.rules.length ≤ a.rules.length * b.rules.length := Nat.mul_le_mul_right _ (Nat.min_le_right _ _)
      omega
    refine K_seq ?_
    refine K_seq ?_
    refine K_region ?_
    refine KV (R_move rfl) rfl ?_
    refine KV (R_fieldAddr 2 fd42_2 rfl) rfl ?_
    refine KV (R_loadO ty40 3 rfl rfl rfl rfl (fun _ => rfl) rfl) rfl ?_
    refine KV (R_len sl40 rfl) rfl ?_
    refine KV (R_cmp rfl rfl rfl) rfl ?_
    refine K_nil ?_
    refine Q_then ?_
    refine K_if rfl (fun h33 => ?_) (fun h33 => ?_)
    ·
      have hj' : j < b.rules.length := by omega
      obtain ⟨yb, yo, yq, yx, yy, ye, yc, ys, yt, yw, yl⟩ := (hb.mono (hV.trans hV2)).rule hj'
      cases ye
      obtain ⟨l1, l2, l3, l4, l5, l6⟩ := hoB.ru _ (List.getElem_mem hj')
      have hmb := mul_bound ⟨k5, k6⟩ ⟨l5, l6⟩
      have hmn : 0 ≤ a.rules[i].to * b.states := Int.mul_nonneg k5 hsB.1
      refine K_skip ?_
      refine Q_then ?_
      refine K_seq ?_
      refine K_block ?_
      refine K_seq ?_
      refine K_regionD (fin := true) (R := [0, 1, 2, 3, 4, 5, 6, 7, 8, 9, 10, 11, 12, 13]) (by kernel_rfl) mixed (.cons_cons _ (.cons_cons _ (.cons_cons _ (.cons_cons _ (.cons_cons _ (List.nil_sublist _)))))) ?_
      refine D_val rfl rfl rfl (R_fieldAddr 2 fd42_2 rfl) ?_
      refine D_val rfl rfl rfl (R_loadO ty40 4 rfl rfl rfl rfl (fun _ => rfl) rfl) ?_
      refine D_val rfl rfl rfl (R_move rfl) ?_
      refine D_val rfl rfl rfl (R_indexN sl40 ty100 rfl rfl (by omega)) ?_
      refine D_val rfl rfl rfl (R_loadH ty100 rfl (xc.mono hV2) rfl (fun e => by cases e) rfl) ?_
      refine D_val rfl rfl rfl (R_fieldAddr 2 fd42_2 rfl) ?_
      refine D_val rfl rfl rfl (R_loadO ty40 3 rfl rfl rfl rfl (fun _ => rfl) rfl) ?_
      refine D_val rfl rfl rfl (R_move rfl) ?_
      refine D_val rfl rfl rfl (R_indexN sl40 ty100 rfl rfl (by omega)) ?_
      refine D_val rfl rfl rfl (R_loadH ty100 rfl (yc) rfl (fun e => by cases e) rfl) ?_
      refine D_alloc rfl rfl rfl (A_alloc z100) fun b8 => ?_
      refine D_alloc rfl rfl rfl (A_alloc z100) fun b9 => ?_
      refine D_storeW ty100 1 rfl rfl rfl rfl rfl ⟨⟨1, rfl⟩, ⟨2, rfl⟩, ⟨3, rfl⟩, ⟨4, rfl⟩, ⟨5, rfl⟩, trivial⟩ rfl rfl rfl rfl ?_
      refine D_lastStoreW ty100 1 rfl rfl rfl rfl rfl rfl rfl rfl rfl ?_
      refine Q_then ?_
      refine K_seq ?_
      refine K_seq ?_
      refine K_region ?_
      refine KV (R_fieldAddr 0 fd100_0 rfl) rfl ?_
      refine KV (R_loadO ty3 0 rfl rfl rfl rfl (fun _ => rfl) rfl) rfl ?_
      refine KV (R_fieldAddr 0 fd100_0 rfl) rfl ?_
      refine KV (R_loadO ty3 1 rfl rfl rfl rfl (fun _ => rfl) rfl) rfl ?_
      refine KV (R_cmp rfl rfl rfl) rfl ?_
      refine K_nil ?_
      refine Q_then ?_
      refine K_if rfl (fun h50 => ?_) (fun h50 => ?_)
      ·
        refine K_exit ?_
        refine Q_then_exit ?_
        refine Q_block_exit ?_
        refine Q_then ?_
        refine K_region ?_
        refine KV (R_move rfl) rfl ?_
        refine KV (R_add rfl rfl (by omega)) rfl ?_
        refine KV (R_assign rfl) rfl ?_
        refine K_nil ?_
        refine KQ_sel [2, 2, 2, 2, 2] rfl ?_
        have hE2 : prods b.states (a.rules.take i) b.rules ++ prodJ b.states a.rules[i] (b.rules.take (j + 1)) = prods b.states (a.rules.take i) b.rules ++ prodJ b.states a.rules[i] (b.rules.take j) := by rw [prodJ_snoc b.states a.rules[i] hj', if_neg (fun h => h50 h.symm), List.append_nil]
        refine Q_nextD (j + 1, V2, .slice w2a (prods b.states (a.rules.take i) b.rules ++ prodJ b.states a.rules[i] (b.rules.take j)).length w2c, cells2) ⟨hj', hV2, by rw [hE2]; exact hC2, _, _, by rw [hE2]⟩ (by (try dsimp only); omega) ⟨rfl, trivial⟩ rfl (by dsimp only [List.set]; rw [hE2]; try rfl) rfl
      ·
        have hsy : a.rules[i].sym = b.rules[j].sym := Decidable.not_not.1 h50
        have hsr := sameRank hoA hoB hrr (List.getElem_mem hi') (List.getElem_mem hj') hsy.symm
        refine K_skip ?_
        refine Q_then ?_
        refine K_seq ?_
        refine K_region ?_
        refine KV (R_fieldAddr 0 fd100_0 rfl) rfl ?_
        refine KV (R_loadO ty3 0 rfl rfl rfl rfl (fun _ => rfl) rfl) rfl ?_
        refine KV (R_fieldAddr 2 fd100_2 rfl) rfl ?_
        refine KV (R_loadO ty3 0 rfl rfl rfl rfl (fun _ => rfl) rfl) rfl ?_
        refine KV (R_fieldAddr 1 fd42_1 rfl) rfl ?_
        refine KV (R_loadO ty3 5 rfl rfl rfl rfl (fun _ => rfl) rfl) rfl ?_
        refine KV (R_mul rfl rfl (by omega)) rfl ?_
        refine KV (R_fieldAddr 2 fd100_2 rfl) rfl ?_
        refine KV (R_loadO ty3 1 rfl rfl rfl rfl (fun _ => rfl) rfl) rfl ?_
        refine KV (R_add rfl rfl (by omega)) rfl ?_
        refine KV (R_build z100 pl100 rfl rfl) rfl ?_
        refine KA (A_alloc z100) rfl fun b10 => ?_
        refine K_storeW ty100 0 rfl rfl rfl rfl rfl rfl rfl ?_
        refine K_nil ?_
        refine Q_then ?_
        refine K_seq ?_
        refine K_seq ?_
        refine K_region ?_
        refine KV (R_assign rfl) rfl ?_
        refine K_nil ?_
        refine Q_then ?_
        refine K_block ?_
        refine K_nilrow T3 1 ?_
        refine K_loopD (G := Nat × Value) [11, 62, 63, 64, 65, 66, 67, 68, 69, 70, 71, 72, 73, 74, 75, 76, 77, 78, 79, 80, 81, 82, 83, 84, 85, 86, 87] (fun g => [(11, .int .i64 (g.1 : Int))]) (fun hl g => ((hl.set 0 (row g.2 T3 1 g.1 (ints (prArgs b.states (a.rules[i].args.take g.1) (b.rules[j].args.take g.1))))).set 1 (blk b10 (.cells #[.int .i64 a.rules[i].sym, g.2, .int .i64 (a.rules[i].to * b.states + b.rules[j].to)] T100 (0, 0))))) (fun g => V2) (fun g => (g.1 ≤ a.rules[i].args.length) ∧ (∃ ad cp, g.2 = .slice ad g.1 cp)) (fun g => a.rules[i].args.length - g.1) (0, nilS) ⟨Nat.zero_le _, _, _, rfl⟩ ⟨rfl, trivial⟩ (by simp only [args0, Nat.reduceAdd, del, memN, beqN, Nat.reduceBEq, cond_true, cond_false]; rfl) rfl rfl ?_
        rintro ⟨k, z⟩ ⟨hk, hz⟩
        dsimp only at hk hz
        dsimp only [List.set, List.cons_append, List.nil_append]
        obtain ⟨za, zc, rfl⟩ := hz
        refine K_seq ?_
        refine K_seq ?_
        refine K_region ?_
        refine KV (R_move rfl) rfl ?_
        refine KV (R_fieldAddr 1 fd100_1 rfl) rfl ?_
        refine KV (R_loadO ty25 2 rfl rfl rfl rfl (fun _ => rfl) rfl) rfl ?_
        refine KV (R_len sl25 rfl) rfl ?_
        refine KV (R_cmp rfl rfl rfl) rfl ?_
        refine K_nil ?_
        refine Q_then ?_
        refine K_if rfl (fun h66 => ?_) (fun h66 => ?_)
        ·
          have hk' : k < a.rules[i].args.length := by omega
          have hk2 : k < b.rules[j].args.length := by omega
          obtain ⟨ub2, uo2, hue, hux⟩ := (xs.mono hV2).get hk'
          cases hue
          obtain ⟨vb2, vo2, hve, hvx⟩ := ys.get hk2
          cases hve
          have q1 := k4 _ (List.getElem_mem hk')
          have q2 := l4 _ (List.getElem_mem hk2)
          have hmz := mul_bound q1 q2
          have hmn2 : 0 ≤ a.rules[i].args[k] * b.states := Int.mul_nonneg q1.1 hsB.1
          refine K_skip ?_
          refine Q_then ?_
          refine K_seq ?_
          refine K_block ?_
          refine K_regionD (fin := true) (R := [0, 1, 2, 3, 4, 5, 6, 7, 8, 9, 10, 11, 12, 13, 14, 15, 16, 17, 18, 19]) (by kernel_rfl) mixed (.cons _ (.cons_cons _ (.cons_cons _ (.cons_cons _ (.cons_cons _ (.cons_cons _ (.cons_cons _ (.cons_cons _ (.cons_cons _ (List.nil_sublist _)))))))))) ?_
          refine D_val rfl rfl rfl (R_fieldAddr 1 fd100_1 rfl) ?_
          refine D_val rfl rfl rfl (R_loadO ty25 0 rfl rfl rfl rfl (fun _ => rfl) rfl) ?_
          refine D_val rfl rfl rfl (R_fieldAddr 1 fd100_1 rfl) ?_
          refine D_val rfl rfl rfl (R_loadO ty25 1 rfl rfl rfl rfl (fun _ => rfl) rfl) ?_
          refine D_val rfl rfl rfl (R_move rfl) ?_
          refine D_val rfl rfl rfl (R_index sl25 ty3 rfl rfl ⟨by omega, by omega⟩) ?_
          refine D_val rfl rfl rfl (R_loadH ty3 rfl (hux) rfl (fun _ => rfl) rfl) ?_
          refine D_val rfl rfl rfl (R_fieldAddr 1 fd42_1 rfl) ?_
          refine D_val rfl rfl rfl (R_loadO ty3 6 rfl rfl rfl rfl (fun _ => rfl) rfl) ?_
          refine D_val rfl rfl rfl (R_mul rfl rfl (by omega)) ?_
          refine D_val rfl rfl rfl (R_fieldAddr 1 fd100_1 rfl) ?_
          refine D_val rfl rfl rfl (R_loadO ty25 2 rfl rfl rfl rfl (fun _ => rfl) rfl) ?_
          refine D_val rfl rfl rfl (R_move rfl) ?_
          refine D_val rfl rfl rfl (R_index sl25 ty3 rfl rfl ⟨by omega, by omega⟩) ?_
          refine D_val rfl rfl rfl (R_loadH ty3 rfl (hvx) rfl (fun _ => rfl) rfl) ?_
          refine D_val rfl rfl rfl (R_add rfl rfl (by omega)) ?_
          refine D_alloc rfl rfl rfl (A_buildSlice (vs := [.int .i64 (a.rules[i].args[k] * b.states + b.rules[j].args[k])]) sl25 ty3 z3 rfl rfl (by simp [Value.cells]) (by simp) rfl (by decide)) fun b85 => ?_
          refine D_append1 0 ap25 rfl rfl rfl rfl rfl rfl ⟨⟨0, rfl⟩, ⟨1, rfl⟩, ⟨2, rfl⟩, ⟨3, rfl⟩, ⟨4, rfl⟩, ⟨5, rfl⟩, ⟨6, rfl⟩, ⟨7, rfl⟩, trivial⟩ rfl rfl ⟨by omega, by omega⟩ fun a86 k86 hn86 => ?_
          refine D_val rfl rfl rfl (R_fieldAddr 1 fd100_1 rfl) ?_
          refine D_lastStore ty25 1 rfl rfl rfl rfl rfl rfl rfl rfl ?_
          refine Q_block ?_
          refine Q_then ?_
          refine K_region ?_
          refine KV (R_move rfl) rfl ?_
          refine KV (R_add rfl rfl (by omega)) rfl ?_
          refine KV (R_assign rfl) rfl ?_
          refine K_nil ?_
          refine Q_nextD (k + 1, .slice a86 (k + 1) k86) ⟨hk', _, _, rfl⟩ (by (try dsimp only); omega) ⟨rfl, trivial⟩ rfl (by dsimp only [List.set]; rw [prArgs_snoc hk' hk2, ints_append _ [_]]; try rfl) rfl
        ·
          have hk' : k = a.rules[i].args.length := by omega
          subst hk'
          rw [List.take_length, hsr, List.take_length]
          rw [← hsr]
          refine K_exit ?_
          refine Q_then_exit ?_
          refine Q_then_exit ?_
          refine Q_block_exit ?_
          refine Q_then ?_
          refine KC_front 0 rfl ?_
          try dsimp only [List.eraseIdx]
          refine KC_pubrow rfl fun U hU hargs => ?_
          skip
          refine K_region ?_
          refine KV (R_fieldAddr 2 fd42_2 rfl) rfl ?_
          refine KV (R_loadO ty40 4 rfl rfl rfl rfl (fun _ => rfl) rfl) rfl ?_
          refine KV (R_loadW ty100 0 rfl rfl rfl rfl) rfl ?_
          refine KA (A_buildSlice (vs := [.agg #[.int .i64 a.rules[i].sym, .slice za a.rules[i].args.length zc, .int .i64 (a.rules[i].to * b.states + b.rules[j].to)]]) sl40 ty100 z100 rfl rfl (by simp [Value.cells]) (by simp) rfl (by decide)) rfl fun b91 => ?_
          refine K_append1 3 ap40 rfl rfl rfl rfl rfl rfl ⟨by omega, by omega⟩ rfl fun a92 k92 hn92 => ?_
          refine KV (R_fieldAddr 2 fd42_2 rfl) rfl ?_
          refine K_store ty40 4 rfl rfl rfl rfl rfl rfl ?_
          refine K_nil ?_
          refine Q_block ?_
          refine Q_then ?_
          refine K_region ?_
          refine KV (R_move rfl) rfl ?_
          refine KV (R_add rfl rfl (by omega)) rfl ?_
          refine KV (R_assign rfl) rfl ?_
          refine K_nil ?_
          refine KQ_sel [0, 3, 3, 3, 3] rfl ?_
          have hE2 : prods b.states (a.rules.take i) b.rules ++ prodJ b.states a.rules[i] (b.rules.take (j + 1)) = (prods b.states (a.rules.take i) b.rules ++ prodJ b.states a.rules[i] (b.rules.take j)) ++ [prR b.states a.rules[i] b.rules[j]] := by rw [prodJ_snoc b.states a.rules[i] hj', if_pos hsy.symm, ← List.append_assoc]
          have hal := prArgs_len (n := b.states) hsr
          have hrep : RepR U (prR b.states a.rules[i] b.rules[j]) [.int .i64 a.rules[i].sym, .slice za a.rules[i].args.length zc, .int .i64 (a.rules[i].to * b.states + b.rules[j].to)] := by
            refine ⟨za, zc, by rw [show (prR b.states a.rules[i] b.rules[j]).args.length = a.rules[i].args.length from hal]; rfl, ⟨by rw [show (prR b.states a.rules[i] b.rules[j]).args.length = a.rules[i].args.length from hal]; exact hargs.sl, fun x hx => ?_⟩, xt, by show i64ok (a.rules[i].to * b.states + b.rules[j].to); simp only [i64ok]; omega, by show (prArgs b.states a.rules[i].args b.rules[j].args).length ≤ _; rw [hal]; exact xl⟩
            obtain ⟨u, hu2, v, hv2, rfl⟩ := prArgs_mem hx
            have h9 := mul_bound (k4 u hu2) (l4 v hv2)
            simp only [i64ok]; omega
          refine Q_nextD (j + 1, U, .slice a92 ((prods b.states (a.rules.take i) b.rules ++ prodJ b.states a.rules[i] (b.rules.take j)).length + 1) k92, cells2 ++ [.int .i64 a.rules[i].sym, .slice za a.rules[i].args.length zc, .int .i64 (a.rules[i].to * b.states + b.rules[j].to)]) ⟨hj', hV2.trans hU, by rw [hE2]; exact (hC2.imp fun x cs h => h.mono hU).snoc hrep rfl, _, _, by rw [hE2, List.length_append (bs := [_])]; rfl⟩ (by (try dsimp only); omega) ⟨rfl, trivial⟩ rfl (by dsimp only [List.set]; rw [hE2, List.length_append (bs := [_])]; try rfl) rfl
    ·
      have hj' : j = b.rules.length := by omega
      refine K_exit ?_
      refine Q_then_exit ?_
      refine Q_then_exit ?_
      refine Q_block_exit ?_
      refine Q_block ?_
      refine Q_then ?_
      refine K_region ?_
      refine KV (R_move rfl) rfl ?_
      refine KV (R_add rfl rfl (by omega)) rfl ?_
      refine KV (R_assign rfl) rfl ?_
      refine K_nil ?_
      have hE : prods b.states (a.rules.take i) b.rules ++ prodJ b.states a.rules[i] (b.rules.take j) = prods b.states (a.rules.take (i + 1)) b.rules := by rw [hj', List.take_length, prods_snoc b.states hi']
      rw [hE] at hC2
      rw [hE]
      refine Q_nextD (i + 1, V2, .slice w2a (prods b.states (a.rules.take (i + 1)) b.rules).length w2c, cells2) ⟨hi', hV.trans hV2, hC2, _, _, rfl⟩ (by (try dsimp only); omega) ⟨rfl, trivial⟩ rfl rfl rfl
  ·
    have hi' : i = a.rules.length := by omega
    subst hi'
    rw [List.take_length] at hC
    obtain ⟨wa, wcp, rfl⟩ := hw
    rw [List.take_length]
    refine K_exit ?_
    refine Q_then_exit ?_
    refine Q_then_exit ?_
    refine Q_block_exit ?_
    refine Q_then ?_
    refine K_seq ?_
    refine K_seq ?_
    refine K_nilrow T3 1 ?_
    refine K_region ?_
    refine KV (R_assign rfl) rfl ?_
    refine K_nil ?_
    refine Q_then ?_
    refine K_block ?_
    refine K_loopD (G := Nat × View × Value) [12, 13, 94, 95, 96, 97, 98, 99, 100, 101, 102, 103, 104, 105, 106, 107, 108, 109, 110, 111, 112, 113, 114, 115, 116, 117, 118, 119, 120, 121, 122, 123, 124, 125, 126] (fun g => [(12, .int .i64 (g.1 : Int))]) (fun hl g => ((hl.set 0 (row g.2.2 T3 1 (finB a.final b.final b.states b.states.toNat g.1).length (ints (finB a.final b.final b.states b.states.toNat g.1)))).set 2 (blk b5 (.cells #[.slice ar a.ranks.length arc, .int .i64 (a.states * b.states), .slice wa (prods b.states a.rules b.rules).length wcp, g.2.2] T42 (0, 0))))) (fun g => g.2.1) (fun g => (g.1 ≤ a.states.toNat) ∧ (VLe V g.2.1) ∧ (∃ ad cp, g.2.2 = .slice ad (finB a.final b.final b.states b.states.toNat g.1).length cp)) (fun g => a.states.toNat - g.1) (0, V, nilS) ⟨Nat.zero_le _, VLe.refl _, _, _, rfl⟩ ⟨rfl, trivial⟩ (by simp only [args0, Nat.reduceAdd, del, memN, beqN, Nat.reduceBEq, cond_true, cond_false]; rfl) rfl rfl ?_
    rintro ⟨s, V2, w2⟩ ⟨hs0, hV2, hw2⟩
    dsimp only at hs0 hV2 hw2
    dsimp only [List.set, List.cons_append, List.nil_append]
    refine K_seq ?_
    refine K_seq ?_
    refine K_region ?_
    refine KV (R_move rfl) rfl ?_
    refine KV (R_fieldAddr 1 fd42_1 rfl) rfl ?_
    refine KV (R_loadO ty3 5 rfl rfl rfl rfl (fun _ => rfl) rfl) rfl ?_
    refine KV (R_cmp rfl rfl rfl) rfl ?_
    refine K_nil ?_
    refine Q_then ?_
    refine K_if rfl (fun h97 => ?_) (fun h97 => ?_)
    ·
      have hs' : s < a.states.toNat := by omega
      refine K_skip ?_
      refine Q_then ?_
      refine K_seq ?_
      refine K_block ?_
      refine K_seq ?_
      refine K_region ?_
      refine KV (R_assign rfl) rfl ?_
      refine K_nil ?_
      refine Q_then ?_
      refine K_block ?_
      have hE0 : finB a.final b.final b.states b.states.toNat s ++ finT a.final b.final b.states s 0 = finB a.final b.final b.states b.states.toNat s := by simp [finT]
      refine K_loopD (G := Nat × View × Value) [13, 100, 101, 102, 103, 104, 105, 106, 107, 108, 109, 110, 111, 112, 113, 114, 115, 116, 117, 118, 119, 120, 121, 122, 123, 124, 125, 126] (fun g => [(13, .int .i64 (g.1 : Int))]) (fun hl g => ((hl.set 0 (row g.2.2 T3 1 (finB a.final b.final b.states b.states.toNat s ++ finT a.final b.final b.states s g.1).length (ints (finB a.final b.final b.states b.states.toNat s ++ finT a.final b.final b.states s g.1)))).set 2 (blk b5 (.cells #[.slice ar a.ranks.length arc, .int .i64 (a.states * b.states), .slice wa (prods b.states a.rules b.rules).length wcp, g.2.2] T42 (0, 0))))) (fun g => g.2.1) (fun g => (g.1 ≤ b.states.toNat) ∧ (VLe V2 g.2.1) ∧ (∃ ad cp, g.2.2 = .slice ad (finB a.final b.final b.states b.states.toNat s ++ finT a.final b.final b.states s g.1).length cp)) (fun g => b.states.toNat - g.1) (0, V2, w2) ⟨Nat.zero_le _, VLe.refl _, by rw [hE0]; exact hw2⟩ ⟨rfl, trivial⟩ (by simp only [args0, Nat.reduceAdd, del, memN, beqN, Nat.reduceBEq, cond_true, cond_false]; rfl) (by dsimp only [List.set]; rw [hE0]; try rfl) rfl ?_
      rintro ⟨t, V3, w3⟩ ⟨ht0, hV3, hw3⟩
      dsimp only at ht0 hV3 hw3
      dsimp only [List.set, List.cons_append, List.nil_append]
      obtain ⟨w3a, w3c, rfl⟩ := hw3
      have hb3 : (finB a.final b.final b.states b.states.toNat s ++ finT a.final b.final b.states s t).length ≤ 131072 := by
        rw [List.length_append]
        have h1 := finB_len a.final b.final b.states b.states.toNat s
        have h2 := finT_len a.final b.final b.states s t
        have h3 : s * b.states.toNat ≤ 256 * 256 := Nat.mul_le_mul (by omega) (by omega)
        omega
      refine K_seq ?_
      refine K_seq ?_
      refine K_region ?_
      refine KV (R_move rfl) rfl ?_
      refine KV (R_fieldAddr 1 fd42_1 rfl) rfl ?_
      refine KV (R_loadO ty3 4 rfl rfl rfl rfl (fun _ => rfl) rfl) rfl ?_
      refine KV (R_cmp rfl rfl rfl) rfl ?_
      refine K_nil ?_
      refine Q_then ?_
      refine K_if rfl (fun h103 => ?_) (fun h103 => ?_)
      ·
        have ht' : t < b.states.toNat := by omega
        have hmf := mul_bound (x := (s : Int)) (y := (t : Int)) (m := a.states) (n := b.states) ⟨by omega, by omega⟩ ⟨by omega, by omega⟩
        have hmn3 : 0 ≤ (s : Int) * b.states := Int.mul_nonneg (by omega) hsB.1
        refine K_skip ?_
        refine Q_then ?_
        refine K_seq ?_
        refine K_block ?_
        refine K_seq ?_
        refine K_region ?_
        refine KV (R_fieldAddr 3 fd42_3 rfl) rfl ?_
        refine KV (R_loadO ty25 5 rfl rfl rfl rfl (fun _ => rfl) rfl) rfl ?_
        refine KV (R_move rfl) rfl ?_
        refine K_call c62 rfl rfl (rhas_spec (s : Int) a.final _ V3 (ha.mono (hV.trans (hV2.trans hV3))).f (by omega)) ?_
        rintro _ V4 hv4 rfl
        refine KV (R_move rfl) rfl ?_
        refine K_split ?_ ?_
        ·
          intro h110
          refine K_gyes rfl rfl ?_
          refine KV (R_fieldAddr 3 fd42_3 rfl) rfl ?_
          refine K_gyes rfl rfl ?_
          refine KV (R_loadO ty25 4 rfl rfl rfl rfl (fun _ => rfl) rfl) rfl ?_
          refine K_gyes rfl rfl ?_
          refine KV (R_move rfl) rfl ?_
          refine K_gyes rfl rfl ?_
          refine K_call c62 rfl rfl (rhas_spec (t : Int) b.final _ V4 (hb.mono (hV.trans (hV2.trans (hV3.trans hv4)))).f (by omega)) ?_
          rintro _ V5 hv5 rfl
          refine KV (R_pickT rfl rfl) rfl ?_
          refine K_nil ?_
          refine Q_then ?_
          refine K_if rfl (fun h115 => ?_) (fun h115 => ?_)
          ·
            refine K_region ?_
            refine KV (R_fieldAddr 3 fd42_3 rfl) rfl ?_
            refine KV (R_loadO ty25 2 rfl rfl rfl rfl (fun _ => rfl) rfl) rfl ?_
            refine KV (R_move rfl) rfl ?_
            refine KV (R_fieldAddr 1 fd42_1 rfl) rfl ?_
            refine KV (R_loadO ty3 4 rfl rfl rfl rfl (fun _ => rfl) rfl) rfl ?_
            refine KV (R_mul rfl rfl (by omega)) rfl ?_
            refine KV (R_move rfl) rfl ?_
            refine KV (R_add rfl rfl (by omega)) rfl ?_
            refine KA (A_buildSlice (vs := [.int .i64 ((s : Int) * b.states + (t : Int))]) sl25 ty3 z3 rfl rfl (by simp [Value.cells]) (by simp) rfl (by decide)) rfl fun b124 => ?_
            refine K_append1 0 ap25 rfl rfl rfl rfl rfl rfl ⟨by omega, by omega⟩ rfl fun a125 k125 hn125 => ?_
            refine KV (R_fieldAddr 3 fd42_3 rfl) rfl ?_
            refine K_store ty25 2 rfl rfl rfl rfl rfl rfl ?_
            refine K_nil ?_
            refine Q_block ?_
            refine Q_then ?_
            refine K_region ?_
            refine KV (R_move rfl) rfl ?_
            refine KV (R_add rfl rfl (by omega)) rfl ?_
            refine KV (R_assign rfl) rfl ?_
            refine K_nil ?_
            have hE2 : finB a.final b.final b.states b.states.toNat s ++ finT a.final b.final b.states s (t + 1) = (finB a.final b.final b.states b.states.toNat s ++ finT a.final b.final b.states s t) ++ [(s : Int) * b.states + (t : Int)] := by rw [finT_succ, if_pos ⟨h110, h115⟩, ← List.append_assoc]
            refine Q_nextD (t + 1, V5, .slice a125 ((finB a.final b.final b.states b.states.toNat s ++ finT a.final b.final b.states s t).length + 1) k125) ⟨ht', hV3.trans (hv4.trans hv5), _, _, by rw [hE2, List.length_append (bs := [_])]; rfl⟩ (by (try dsimp only); omega) ⟨rfl, trivial⟩ rfl (by dsimp only [List.set]; rw [hE2, List.length_append (bs := [_]), ints_append _ [_]]; try rfl) rfl
          ·
            refine K_skip ?_
            refine Q_block ?_
            refine Q_then ?_
            refine K_region ?_
            refine KV (R_move rfl) rfl ?_
            refine KV (R_add rfl rfl (by omega)) rfl ?_
            refine KV (R_assign rfl) rfl ?_
            refine K_nil ?_
            have hE2 : finB a.final b.final b.states b.states.toNat s ++ finT a.final b.final b.states s (t + 1) = finB a.final b.final b.states b.states.toNat s ++ finT a.final b.final b.states s t := by rw [finT_succ, if_neg (fun h => h115 h.2), List.append_nil]
            refine Q_nextD (t + 1, V5, .slice w3a (finB a.final b.final b.states b.states.toNat s ++ finT a.final b.final b.states s t).length w3c) ⟨ht', hV3.trans (hv4.trans hv5), _, _, by rw [hE2]⟩ (by (try dsimp only); omega) ⟨rfl, trivial⟩ rfl (by dsimp only [List.set]; rw [hE2]; try rfl) rfl
        ·
          intro h110
          refine K_gno rfl rfl rfl rfl ?_
          refine K_gno rfl rfl rfl rfl ?_
          refine K_gno rfl rfl rfl rfl ?_
          refine K_gno rfl rfl rfl rfl ?_
          refine KV (R_pickF rfl rfl) rfl ?_
          refine K_nil ?_
          refine Q_then ?_
          refine K_ifF rfl ?_
          refine K_skip ?_
          refine Q_block ?_
          refine Q_then ?_
          refine K_region ?_
          refine KV (R_move rfl) rfl ?_
          refine KV (R_add rfl rfl (by omega)) rfl ?_
          refine KV (R_assign rfl) rfl ?_
          refine K_nil ?_
          have hE2 : finB a.final b.final b.states b.states.toNat s ++ finT a.final b.final b.states s (t + 1) = finB a.final b.final b.states b.states.toNat s ++ finT a.final b.final b.states s t := by rw [finT_succ, if_neg (fun h => h110 h.1), List.append_nil]
          refine Q_nextD (t + 1, V4, .slice w3a (finB a.final b.final b.states b.states.toNat s ++ finT a.final b.final b.states s t).length w3c) ⟨ht', hV3.trans hv4, _, _, by rw [hE2]⟩ (by (try dsimp only); omega) ⟨rfl, trivial⟩ rfl (by dsimp only [List.set]; rw [hE2]; try rfl) rfl
      ·
        have ht' : t = b.states.toNat := by omega
        refine K_exit ?_
        refine Q_then_exit ?_
        refine Q_then_exit ?_
        refine Q_block_exit ?_
        refine Q_block ?_
        refine Q_then ?_
        refine K_region ?_
        refine KV (R_move rfl) rfl ?_
        refine KV (R_add rfl rfl (by omega)) rfl ?_
        refine KV (R_assign rfl) rfl ?_
        refine K_nil ?_
        have hE : finB a.final b.final b.states b.states.toNat s ++ finT a.final b.final b.states s t = finB a.final b.final b.states b.states.toNat (s + 1) := by rw [ht', finB_succ]
        rw [hE]
        refine Q_nextD (s + 1, V3, .slice w3a (finB a.final b.final b.states b.states.toNat (s + 1)).length w3c) ⟨hs', hV2.trans hV3, _, _, rfl⟩ (by (try dsimp only); omega) ⟨rfl, trivial⟩ rfl rfl rfl
    ·
      have hs' : s = a.states.toNat := by omega
      subst hs'
      obtain ⟨w2a, w2c, rfl⟩ := hw2
      refine K_exit ?_
      refine Q_then_exit ?_
      refine Q_then_exit ?_
      refine Q_block_exit ?_
      refine Q_then ?_
      refine K_seq ?_
      refine KC_front 1 rfl ?_
      try dsimp only [List.eraseIdx]
      refine KC_pubrow rfl fun V7 hv7 hrowU => ?_
      skip
      refine KC_front 0 rfl ?_
      try dsimp only [List.eraseIdx]
      refine KC_pubrow rfl fun V8 hv8 hfinU => ?_
      skip
      have hvv := hV.trans (hV2.trans (hv7.trans hv8))
      have hI : RepAu V8 (botA a b) (.slice ar a.ranks.length arc) (.slice wa (prods b.states a.rules b.rules).length wcp) (.slice w2a (finB a.final b.final b.states b.states.toNat a.states.toNat).length w2c) := by
        have hbo := botA_ok hoA hoB hrr hs hu
        refine ⟨ha.r.mono hvv, ⟨cells, hrowU.sl.mono hv8, hC.imp fun x cs h => h.mono (hV2.trans (hv7.trans hv8))⟩, ⟨hfinU.sl, fun x hx => ?_⟩, by show i64ok (a.states * b.states); simp only [i64ok]; omega, ha.rl, Nat.le_trans (prods_len _ _ _) (by omega), ?_⟩
        · have := hbo.fi x hx
          have h2 : (botA a b).states = a.states * b.states := rfl
          simp only [i64ok]; omega
        · have h1 := finB_len a.final b.final b.states b.states.toNat a.states.toNat
          have h2 : a.states.toNat * b.states.toNat ≤ 256 * 256 := Nat.mul_le_mul (by omega) (by omega)
          exact Nat.le_trans h1 (by omega)
      refine K_region ?_
      refine KV (R_loadW ty42 0 rfl rfl rfl rfl) rfl ?_
      refine K_call c67 rfl rfl (rsorted_spec (botA a b) _ _ _ V8 hI (Nat.le_trans (prods_len _ _ _) (by omega)) (by show a.states * b.states ≤ _; omega) (fun r hr => Nat.le_trans ((botA_ok hoA hoB hrr hs hu).args2 r hr) (by decide))) ?_
      rintro _ U2 hU2 ⟨s1, s2, s3, rfl, hS⟩
      obtain ⟨sr, src, rfl⟩ := hS.r.shape
      obtain ⟨sf, sfc, rfl⟩ := hS.f.shape
      obtain ⟨su, suc, rfl⟩ := hS.ushape
      refine K_storeW ty42 1 rfl rfl rfl rfl rfl rfl rfl ?_
      refine K_nil ?_
      refine Q_then ?_
      refine K_ret ?_
      refine results_gen (rs := [.cell 4 25]) (vs := [_]) rfl ⟨⟨_, _, _, _, _, _, 1, rfl, rfl, ty42, (fun e => by cases e), rfl, rfl⟩, trivial⟩ ?_
      exact ⟨_, _, _, rfl, hS⟩
end Go.Proofs.X

namespace Go.Proofs.X
open Go Pal Go.Proofs
attribute [local irreducible] Pal.KO Pal.KC Pal.KQ Pal.KD

set_option maxHeartbeats 2000000 in
theorem inter_spec (a b : Au) (v1 v2 v3 w1 w2 w3 : Value) (H : View) (ha : RepAu H a v1 v2 v3) (hb : RepAu H b w1 w2 w3) (hs0 : twoErr a b = 0 → a.states * b.states ≤ 256) (hu : a.rules.length * b.rules.length ≤ 65536) (hf : a.final.length * b.final.length ≤ 1048576) : Sat Tryz.prog F2032 #[.agg #[v1, .int .i64 a.states, v2, v3], .agg #[w1, .int .i64 b.states, w2, w3]] H (fun r H' => ∃ v1 v2 v3, r = .tuple #[.agg #[v1, .int .i64 (errAu (twoErr a b) (normA (intA a b))).states, v2, v3], .int .i64 (twoErr a b)] ∧ RepAu H' (errAu (twoErr a b) (normA (intA a b))) v1 v2 v3) := by
  obtain ⟨ar, arc, rfl⟩ := ha.r.shape
  obtain ⟨af, afc, rfl⟩ := ha.f.shape
  obtain ⟨au, auc, rfl⟩ := ha.ushape
  obtain ⟨br, brc, rfl⟩ := hb.r.shape
  obtain ⟨bf, bfc, rfl⟩ := hb.f.shape
  obtain ⟨bu, buc, rfl⟩ := hb.ushape
  have hafl := ha.fl
  have hbfl := hb.fl
  have hrl := ha.rl
  have hu2 : (sortO a.rules).length * (sortO b.rules).length ≤ 65536 := Nat.le_trans (Nat.mul_le_mul (sortO_len _) (sortO_len _)) hu
  refine enterO (n := 161) (args := [.agg #[.slice ar a.ranks.length arc, .int .i64 a.states, .slice au a.rules.length auc, .slice af a.final.length afc], .agg #[.slice br b.ranks.length brc, .int .i64 b.states, .slice bu b.rules.length buc, .slice bf b.final.length bfc]]) Tryz.func43 rfl rfl rfl fun w0 => ?_
  refine K_seq ?_
  refine K_region ?_
  refine KA (A_box rfl) rfl fun b2 => ?_
  refine KA (A_box rfl) rfl fun b3 => ?_
  refine KA (A_alloc z50) rfl fun b4 => ?_
  refine KV (R_assign rfl) rfl ?_
  refine K_nil ?_
  refine Q_then ?_
  refine K_seq ?_
  refine K_seq ?_
  refine K_region ?_
  refine KV (R_loadW ty50 2 rfl rfl rfl rfl) rfl ?_
  refine KV (R_loadW ty50 1 rfl rfl rfl rfl) rfl ?_
  refine K_call c2061 rfl rfl (two_spec a b _ _ _ _ _ _ H ha hb) ?_
  rintro _ V1 hv1 rfl
  refine KV (R_assign rfl) rfl ?_
  refine K_nil ?_
  refine Q_then ?_
  refine K_seq ?_
  refine K_region ?_
  refine KV (R_move rfl) rfl ?_
  refine KV (R_cmp rfl rfl rfl) rfl ?_
  refine K_nil ?_
  refine Q_then ?_
  refine K_if rfl (fun hte => ?_) (fun hte => ?_)
  ·
    refine K_seq ?_
    refine K_region ?_
    refine KV (R_build z50 pl50 rfl rfl) rfl ?_
    refine KV (R_move rfl) rfl ?_
    refine K_storeW ty50 0 rfl rfl rfl rfl rfl rfl rfl ?_
    refine KV (R_assign rfl) rfl ?_
    refine K_nil ?_
    refine Q_then ?_
    refine K_ret ?_
    refine Q_then_ret ?_
    refine results_gen (rs := [.cell 4 37, .tmp 5]) (vs := [_, _]) rfl ⟨⟨_, _, _, _, _, _, 0, rfl, rfl, ty50, (fun e => by cases e), rfl, rfl⟩, ⟨rfl, trivial⟩⟩ ?_
    rw [errAu_no hte]
    exact ⟨nilS, nilS, nilS, rfl, RepAu.nil _⟩
  ·
    have hte0 := Decidable.not_not.1 hte
    have hs := hs0 hte0
    obtain ⟨hea, heb, hrr⟩ := twoErr_zero hte0
    have hoA := AuOk.of hea
    have hoB := AuOk.of heb
    have hsA := hoA.st
    have hsB := hoB.st
    have hsn0 : 0 ≤ a.states * b.states := Int.mul_nonneg hsA.1 hsB.1
    refine K_skip ?_
    refine Q_then ?_
    refine K_seq ?_
    refine K_regionD (fin := true) (R := [0, 1, 3, 4, 5, 6, 7, 2, 8, 9, 10]) (by kernel_rfl) mixed (.cons_cons _ (.cons_cons _ (.cons_cons _ (List.nil_sublist _)))) ?_
    refine D_val rfl rfl rfl (R_fieldAddr 0 fd50_0 rfl) ?_
    refine D_val rfl rfl rfl (R_loadO ty47 2 rfl rfl rfl rfl (fun _ => rfl) rfl) ?_
    refine D_val rfl rfl rfl (R_fieldAddr 1 fd50_1 rfl) ?_
    refine D_val rfl rfl rfl (R_loadO ty3 2 rfl rfl rfl rfl (fun _ => rfl) rfl) ?_
    refine D_val rfl rfl rfl (R_fieldAddr 1 fd50_1 rfl) ?_
    refine D_val rfl rfl rfl (R_loadO ty3 1 rfl rfl rfl rfl (fun _ => rfl) rfl) ?_
    refine D_val rfl rfl rfl (R_mul rfl rfl (by omega)) ?_
    refine D_call rfl rfl c45 rfl ⟨⟨0, rfl⟩, ⟨1, rfl⟩, ⟨2, rfl⟩, trivial⟩ (clone47_spec a.ranks _ V1 (ha.mono hv1).r hrl) ?_
    rintro _ V2 hv2 hck
    obtain ⟨cka, ckc, rfl⟩ := hck.shape
    refine D_val rfl rfl rfl (R_build z50 pl50 rfl rfl) ?_
    refine D_alloc rfl rfl rfl (A_alloc z50) fun b7 => ?_
    refine D_lastStoreW ty50 0 rfl rfl rfl rfl rfl rfl rfl rfl rfl ?_
    refine Q_then ?_
    refine K_seq ?_
    refine K_regionD (fin := false) (R := [0, 2, 1, 3, 4, 5]) (by kernel_rfl) mixed (.cons_cons _ (.cons_cons _ (.cons_cons _ (.cons_cons _ (List.nil_sublist _))))) ?_
    refine D_val rfl rfl rfl (R_loadW ty50 3 rfl rfl rfl rfl) ?_
    refine D_val rfl rfl rfl (R_loadW ty50 2 rfl rfl rfl rfl) ?_
    refine D_call rfl rfl c2053 rfl ⟨⟨0, rfl⟩, ⟨1, rfl⟩, ⟨2, rfl⟩, ⟨3, rfl⟩, trivial⟩ (book_spec a _ _ _ V2 (ha.mono (hv1.trans hv2))) ?_
    rintro _ V3 hv3 ⟨bA, kvA, rfl, hbA, hnA, hrA⟩
    refine D_call rfl rfl c2053 rfl ⟨⟨0, rfl⟩, ⟨1, rfl⟩, ⟨2, rfl⟩, ⟨3, rfl⟩, trivial⟩ (book_spec b _ _ _ V3 (hb.mono (hv1.trans (hv2.trans hv3)))) ?_
    rintro _ V4 hv4 ⟨bB, kvB, rfl, hbB, hnB, hrB⟩
    have hbA4 := hv4 _ _ hbA
    have hrA4 : ∀ q, RulesAt V4 ((lookI kvA q).getD nilS) (symR (sortO a.rules) q) := fun q => (hrA q).mono hv4
    refine D_val rfl rfl rfl (R_assign rfl) ?_
    refine D_val rfl rfl rfl (R_assign rfl) ?_
    refine D_done ?_
    refine Q_then ?_
    refine K_seq ?_
    refine K_region ?_
    refine KV (R_assign rfl) rfl ?_
    refine K_nil ?_
    refine Q_then ?_
    refine K_seq ?_
    refine K_seq ?_
    refine K_region ?_
    refine KV (R_move rfl) rfl ?_
    refine K_range mt2031 rfl (.inl hbA4) rfl fun b46 => ?_
    refine K_nil ?_
    refine Q_then ?_
    refine K_block ?_
    refine K_loopD (G := List Nat) [10, 11, 12, 47, 48, 49, 50, 51, 52, 53, 54, 55, 56, 57, 58, 59, 60] (fun g => [(10, .int .i64 ((((prodK b.states (sortO a.rules) (sortO b.rules) (keysAt kvA g)).length) : Nat) : Int))]) (fun hl g => (hl.set 0 (blk b46 (itO bA kvA.length g)))) (fun g => V4) (fun g => (g.Nodup) ∧ (∀ i ∈ g, i < kvA.length)) (fun g => kvA.length - g.length) [] ⟨List.nodup_nil, fun i hi => (by cases hi)⟩ ⟨rfl, trivial⟩ (by simp only [args0, Nat.reduceAdd, del, memN, beqN, Nat.reduceBEq, cond_true, cond_false]; rfl) rfl rfl ?_
    rintro seen ⟨hsn, hslt⟩
    try dsimp only at hsn
    try dsimp only at hslt
    dsimp only [List.set, List.cons_append, List.nil_append]
    refine K_seq ?_
    refine K_region ?_
    refine K_next 0 rfl rfl (.inl hbA4) rfl (fun hall => ?_) (fun i q u hki hni => ?_)
    ·
      refine KV (R_extract rfl rfl) rfl ?_
      refine K_nil ?_
      refine Q_then ?_
      refine K_seq ?_
      refine K_ifF rfl ?_
      refine K_exit ?_
      refine Q_then_exit ?_
      refine Q_then_exit ?_
      refine Q_block_exit ?_
      refine Q_then ?_
      refine K_seq ?_
      refine K_seq ?_
      have htot := Nat.le_trans (prodK_len b.states (sortO a.rules) (sortO b.rules) (keysAt_nodup hnA hsn hslt)) hu2
      refine K_region ?_
      refine KV (R_fieldAddr 1 fd50_1 rfl) rfl ?_
      refine KV (R_loadO ty3 1 rfl rfl rfl rfl (fun _ => rfl) rfl) rfl ?_
      refine KV (R_cmp rfl rfl rfl) rfl ?_
      refine KV (R_move rfl) rfl ?_
      refine K_split ?_ ?_
      ·
        intro h64
        exact absurd h64 (by omega)
      ·
        intro h64
        refine K_gyes rfl rfl ?_
        refine KV (R_move rfl) rfl ?_
        refine K_gyes rfl rfl ?_
        refine KV (R_cmp rfl rfl rfl) rfl ?_
        refine KV (R_pickF rfl rfl) rfl ?_
        refine K_nil ?_
        refine Q_then ?_
        refine K_if rfl (fun h67 => ?_) (fun h67 => ?_)
        ·
          exact absurd h67 (by omega)
        ·
          refine K_skip ?_
          refine Q_then ?_
          refine K_seq ?_
          refine K_seq ?_
          refine K_region ?_
          refine KV (R_move rfl) rfl ?_
          refine K_range mt2031 rfl (.inl hbA4) rfl fun b70 => ?_
          refine K_nil ?_
          refine Q_then ?_
          refine K_block ?_
          refine K_nilrow T85 3 ?_
          refine K_loopD (G := List Nat × View × Value × List Value) [13, 14, 16, 18, 19, 20, 71, 72, 73, 74, 75, 76, 77, 78, 79, 80, 81, 82, 83, 84, 85, 86, 87, 88, 89, 90, 91, 92, 93, 94, 95, 96, 97, 98, 99, 100, 101, 102, 103, 104, 105, 106, 107, 108, 109, 110, 111, 112, 113, 114, 115, 116, 117, 118, 119, 120, 121, 122, 123, 124, 125, 126, 127, 128, 129, 130, 131] (fun g => []) (fun hl g => (((hl.set 1 (blk b70 (itO bA kvA.length g.1))).set 0 (row g.2.2.1 T85 3 (prodK b.states (sortO a.rules) (sortO b.rules) (keysAt kvA g.1)).length g.2.2.2)).set 3 (blk b7 (.cells #[.slice cka a.ranks.length ckc, .int .i64 (a.states * b.states), g.2.2.1, nilS] T50 (0, 0))))) (fun g => g.2.1) (fun g => (g.1.Nodup) ∧ (∀ i ∈ g.1, i < kvA.length) ∧ (VLe V4 g.2.1) ∧ (RepL (RepR g.2.1) 3 (prodK b.states (sortO a.rules) (sortO b.rules) (keysAt kvA g.1)) g.2.2.2) ∧ (∃ ad cp, g.2.2.1 = .slice ad (prodK b.states (sortO a.rules) (sortO b.rules) (keysAt kvA g.1)).length cp)) (fun g => kvA.length - g.1.length) ([], V4, nilS, []) ⟨List.nodup_nil, fun i hi => (by cases hi), VLe.refl _, .nil, _, _, rfl⟩ trivial (by simp only [args0, Nat.reduceAdd, del, memN, beqN, Nat.reduceBEq, cond_true, cond_false]; rfl) rfl rfl ?_
          rintro ⟨seen2, V, w, cells⟩ ⟨hsn2, hslt2, hV, hC, hw⟩
          dsimp only at hsn2 hslt2 hV hC hw
          dsimp only [List.set, List.cons_append, List.nil_append]
          refine K_seq ?_
          refine K_region ?_
          refine K_next 1 rfl rfl (.inl (hV _ _ hbA4)) rfl (fun hall => ?_) (fun i q u hki hni => ?_)
          ·
            refine KV (R_extract rfl rfl) rfl ?_
            refine K_nil ?_
            refine Q_then ?_
            refine K_seq ?_
            refine K_ifF rfl ?_
            refine K_exit ?_
            refine Q_then_exit ?_
            refine Q_then_exit ?_
            refine Q_block_exit ?_
            refine Q_then ?_
            refine K_seq ?_
            refine K_seq ?_
            obtain ⟨wa, wcp, rfl⟩ := hw
            refine K_nilrow T3 1 ?_
            refine K_region ?_
            refine KV (R_fieldAddr 3 fd50_3 rfl) rfl ?_
            refine KV (R_loadO ty25 7 rfl rfl rfl rfl (fun _ => rfl) rfl) rfl ?_
            refine KV (R_len sl25 rfl) rfl ?_
            refine KV (R_move rfl) rfl ?_
            refine K_nil ?_
            refine Q_then ?_
            refine K_block ?_
            refine K_loopD (G := Nat × Value) [22, 24, 135, 136, 137, 138, 139, 140, 141, 142, 143, 144, 145, 146, 147, 148, 149, 150, 151, 152, 153, 154, 155, 156, 157, 158] (fun g => [(135, .int .i64 (g.1 : Int))]) (fun hl g => ((hl.set 0 (row g.2 T3 1 (finP b.states (a.final.take g.1) b.final).length (ints (finP b.states (a.final.take g.1) b.final)))).set 4 (blk b7 (.cells #[.slice cka a.ranks.length ckc, .int .i64 (a.states * b.states), .slice wa (prodK b.states (sortO a.rules) (sortO b.rules) (keysAt kvA seen2)).length wcp, g.2] T50 (0, 0))))) (fun g => V) (fun g => (g.1 ≤ a.final.length) ∧ (∃ ad cp, g.2 = .slice ad (finP b.states (a.final.take g.1) b.final).length cp)) (fun g => a.final.length - g.1) (0, nilS) ⟨Nat.zero_le _, _, _, rfl⟩ ⟨rfl, trivial⟩ (by simp only [args0, Nat.reduceAdd, del, memN, beqN, Nat.reduceBEq, cond_true, cond_false]; rfl) rfl rfl ?_
            rintro ⟨s, w2⟩ ⟨hs0, hw2⟩
            dsimp only at hs0 hw2
            dsimp only [List.set, List.cons_append, List.nil_append]
            refine K_seq ?_
            refine K_region ?_
            refine KV (R_cmp rfl rfl rfl) rfl ?_
            refine K_nil ?_
            refine Q_then ?_
            refine K_seq ?_
            refine K_if rfl (fun h136 => ?_) (fun h136 => ?_)
            ·
              have hs' : s < a.final.length := by omega
              obtain ⟨qb, qo, hqe, hqa⟩ := (ha.mono (hv1.trans (hv2.trans (hv3.trans (hv4.trans hV))))).f.get hs'
              cases hqe
              have hfa := hoA.fi _ (List.getElem_mem hs')
              refine K_skip ?_
              refine Q_then ?_
              refine K_seq ?_
              refine K_block ?_
              refine K_seq ?_
              refine K_region ?_
              refine KV (R_indexN sl25 ty3 rfl rfl (by omega)) rfl ?_
              refine KV (R_loadH ty3 rfl (hqa) rfl (fun _ => rfl) rfl) rfl ?_
              refine KV (R_assign rfl) rfl ?_
              refine K_nil ?_
              refine Q_then ?_
              refine K_seq ?_
              refine K_region ?_
              refine KV (R_fieldAddr 3 fd50_3 rfl) rfl ?_
              refine KV (R_loadO ty25 6 rfl rfl rfl rfl (fun _ => rfl) rfl) rfl ?_
              refine KV (R_len sl25 rfl) rfl ?_
              refine KV (R_move rfl) rfl ?_
              refine K_nil ?_
              refine Q_then ?_
              refine K_block ?_
              have hE0 : finP b.states (a.final.take s) b.final ++ finX b.states a.final[s] b.final 0 = finP b.states (a.final.take s) b.final := by simp [finX]
              refine K_loopD (G := Nat × Value) [24, 142, 143, 144, 145, 146, 147, 148, 149, 150, 151, 152, 153, 154, 155, 156, 157] (fun g => [(142, .int .i64 (g.1 : Int))]) (fun hl g => ((hl.set 0 (row g.2 T3 1 (finP b.states (a.final.take s) b.final ++ finX b.states a.final[s] b.final g.1).length (ints (finP b.states (a.final.take s) b.final ++ finX b.states a.final[s] b.final g.1)))).set 4 (blk b7 (.cells #[.slice cka a.ranks.length ckc, .int .i64 (a.states * b.states), .slice wa (prodK b.states (sortO a.rules) (sortO b.rules) (keysAt kvA seen2)).length wcp, g.2] T50 (0, 0))))) (fun g => V) (fun g => (g.1 ≤ b.final.length) ∧ (∃ ad cp, g.2 = .slice ad (finP b.states (a.final.take s) b.final ++ finX b.states a.final[s] b.final g.1).length cp)) (fun g => b.final.length - g.1) (0, w2) ⟨Nat.zero_le _, by rw [hE0]; exact hw2⟩ ⟨rfl, trivial⟩ (by simp only [args0, Nat.reduceAdd, del, memN, beqN, Nat.reduceBEq, cond_true, cond_false]; rfl) (by dsimp only [List.set]; rw [hE0]; try rfl) rfl ?_
              rintro ⟨t, w3⟩ ⟨ht0, hw3⟩
              dsimp only at ht0 hw3
              dsimp only [List.set, List.cons_append, List.nil_append]
              obtain ⟨w3a, w3c, rfl⟩ := hw3
              have hb3 : (finP b.states (a.final.take s) b.final ++ finX b.states a.final[s] b.final t).length = s * b.final.length + t := by
                rw [List.length_append, finP_len, finX_len _ _ ht0, List.length_take, Nat.min_eq_left (by omega)]
              refine K_seq ?_
              refine K_region ?_
              refine KV (R_cmp rfl rfl rfl) rfl ?_
              refine K_nil ?_
              refine Q_then ?_
              refine K_seq ?_
              refine K_if rfl (fun h143 => ?_) (fun h143 => ?_)
              ·
                have ht' : t < b.final.length := by omega
                obtain ⟨qb2, qo2, hqe2, hqb⟩ := (hb.mono (hv1.trans (hv2.trans (hv3.trans (hv4.trans hV))))).f.get ht'
                cases hqe2
                have hfb := hoB.fi _ (List.getElem_mem ht')
                have hmf := mul_bound hfa hfb
                have hmn3 : 0 ≤ a.final[s] * b.states := Int.mul_nonneg hfa.1 hsB.1
                have hpf2 := part_fit hs' ht'
                refine K_skip ?_
                refine Q_then ?_
                refine K_seq ?_
                refine K_block ?_
                refine K_seq ?_
                refine K_region ?_
                refine KV (R_indexN sl25 ty3 rfl rfl (by omega)) rfl ?_
                refine KV (R_loadH ty3 rfl (hqb) rfl (fun _ => rfl) rfl) rfl ?_
                refine KV (R_assign rfl) rfl ?_
                refine K_nil ?_
                refine Q_then ?_
                refine K_region ?_
                refine KV (R_fieldAddr 3 fd50_3 rfl) rfl ?_
                refine KV (R_loadO ty25 4 rfl rfl rfl rfl (fun _ => rfl) rfl) rfl ?_
                refine KV (R_move rfl) rfl ?_
                refine KV (R_fieldAddr 1 fd50_1 rfl) rfl ?_
                refine KV (R_loadO ty3 6 rfl rfl rfl rfl (fun _ => rfl) rfl) rfl ?_
                refine KV (R_mul rfl rfl (by omega)) rfl ?_
                refine KV (R_move rfl) rfl ?_
                refine KV (R_add rfl rfl (by omega)) rfl ?_
                refine KA (A_buildSlice (vs := [.int .i64 (a.final[s] * b.states + b.final[t])]) sl25 ty3 z3 rfl rfl (by simp [Value.cells]) (by simp) rfl (by decide)) rfl fun b154 => ?_
                refine K_append1 0 ap25 rfl rfl rfl rfl rfl rfl ⟨by omega, by omega⟩ rfl fun a155 k155 hn155 => ?_
                refine KV (R_fieldAddr 3 fd50_3 rfl) rfl ?_
                refine K_store ty25 4 rfl rfl rfl rfl rfl rfl ?_
                refine K_nil ?_
                refine Q_block ?_
                refine Q_then ?_
                refine K_region ?_
                refine KV (R_add rfl rfl (by omega)) rfl ?_
                refine KV (R_move rfl) rfl ?_
                refine K_nil ?_
                have hE2 : finP b.states (a.final.take s) b.final ++ finX b.states a.final[s] b.final (t + 1) = (finP b.states (a.final.take s) b.final ++ finX b.states a.final[s] b.final t) ++ [a.final[s] * b.states + b.final[t]] := by rw [finX_succ _ _ ht', ← List.append_assoc]
                refine Q_nextD (t + 1, .slice a155 ((finP b.states (a.final.take s) b.final ++ finX b.states a.final[s] b.final t).length + 1) k155) ⟨ht', _, _, by rw [hE2, List.length_append (bs := [_])]; rfl⟩ (by (try dsimp only); omega) ⟨rfl, trivial⟩ rfl (by dsimp only [List.set]; rw [hE2, List.length_append (bs := [_]), ints_append _ [_]]; try rfl) rfl
              ·
                have ht' : t = b.final.length := by omega
                refine K_exit ?_
                refine Q_then_exit ?_
                refine Q_then_exit ?_
                refine Q_block_exit ?_
                refine Q_block ?_
                refine Q_then ?_
                refine K_region ?_
                refine KV (R_add rfl rfl (by omega)) rfl ?_
                refine KV (R_move rfl) rfl ?_
                refine K_nil ?_
                have hE : finP b.states (a.final.take s) b.final ++ finX b.states a.final[s] b.final t = finP b.states (a.final.take (s + 1)) b.final := by rw [ht', finP_snoc b.states hs']
                rw [hE]
                refine Q_nextD (s + 1, .slice w3a (finP b.states (a.final.take (s + 1)) b.final).length w3c) ⟨hs', _, _, rfl⟩ (by (try dsimp only); omega) ⟨rfl, trivial⟩ rfl rfl rfl
            ·
              have hs' : s = a.final.length := by omega
              subst hs'
              rw [List.take_length]
              rw [List.take_length] at hw2
              refine K_exit ?_
              refine Q_then_exit ?_
              refine Q_then_exit ?_
              refine Q_block_exit ?_
              refine Q_then ?_
              refine K_seq ?_
              obtain ⟨w2a, w2c, rfl⟩ := hw2
              refine KC_front 1 rfl ?_
              try dsimp only [List.eraseIdx]
              refine KC_pubrow rfl fun V7 hv7 hrowU => ?_
              skip
              refine KC_front 0 rfl ?_
              try dsimp only [List.eraseIdx]
              refine KC_pubrow rfl fun V8 hv8 hfinU => ?_
              skip
              have hpl := Nat.le_trans (prodK_len b.states (sortO a.rules) (sortO b.rules) (keysAt_nodup hnA hsn2 hslt2)) hu2
              have hio := intA_ok hoA hoB hrr hs hu
              have hI : RepAu V8 ⟨a.ranks, a.states * b.states, prodK b.states (sortO a.rules) (sortO b.rules) (keysAt kvA seen2), finP b.states a.final b.final⟩ (.slice cka a.ranks.length ckc) (.slice wa (prodK b.states (sortO a.rules) (sortO b.rules) (keysAt kvA seen2)).length wcp) (.slice w2a (finP b.states a.final b.final).length w2c) := by
                refine ⟨hck.mono (hv3.trans (hv4.trans (hV.trans (hv7.trans hv8)))), ⟨cells, hrowU.sl.mono hv8, hC.imp fun x cs h => h.mono (hv7.trans hv8)⟩, ⟨hfinU.sl, fun x hx => ?_⟩, by show i64ok (a.states * b.states); simp only [i64ok]; omega, hrl, by show (prodK b.states (sortO a.rules) (sortO b.rules) (keysAt kvA seen2)).length ≤ _; omega, by show (finP b.states a.final b.final).length ≤ _; rw [finP_len]; omega⟩
                have := hio.fi x hx
                have h2 : (intA a b).states = a.states * b.states := rfl
                simp only [i64ok]; omega
              refine K_region ?_
              refine KV (R_loadW ty50 2 rfl rfl rfl rfl) rfl ?_
              refine K_call c2045 rfl rfl (sortedS_spec ⟨a.ranks, a.states * b.states, prodK b.states (sortO a.rules) (sortO b.rules) (keysAt kvA seen2), finP b.states a.final b.final⟩ _ _ _ V8 hI) ?_
              rintro _ VS hvS ⟨s1, s2, s3, rfl, hS⟩
              rw [int_norm a b (book_keys hrA4 hsn2 hslt2 hall)] at hS
              obtain ⟨sr, src, rfl⟩ := hS.r.shape
              obtain ⟨sf, sfc, rfl⟩ := hS.f.shape
              obtain ⟨su, suc, rfl⟩ := hS.ushape
              refine K_storeW ty50 3 rfl rfl rfl rfl rfl rfl rfl ?_
              refine KV (R_assign rfl) rfl ?_
              refine K_nil ?_
              refine Q_then ?_
              refine K_ret ?_
              refine results_gen (rs := [.cell 4 37, .tmp 5]) (vs := [_, _]) rfl ⟨⟨_, _, _, _, _, _, 3, rfl, rfl, ty50, (fun e => by cases e), rfl, rfl⟩, ⟨rfl, trivial⟩⟩ ?_
              rw [hte0, errAu_ok rfl]
              exact ⟨_, _, _, rfl, hS⟩
          ·
            obtain ⟨hnd2, hlt2, hle2⟩ := seen_snoc hsn2 hslt2 hni (List.getElem?_eq_some_iff.1 hki).1
            have hU := book_at hnA hrA4 hki
            obtain ⟨ua, uc, rfl⟩ := hU.shape
            have hXl : (symR (sortO a.rules) q).length ≤ 65536 := Nat.le_trans (List.length_filter_le _ _) (Nat.le_trans (sortO_len _) hoA.ul)
            have hYl : (symR (sortO b.rules) q).length ≤ 65536 := Nat.le_trans (List.length_filter_le _ _) (Nat.le_trans (sortO_len _) hoB.ul)
            have hSB := hrB q
            generalize hsv : (lookI kvB q).getD nilS = sv at hSB
            obtain ⟨sa, sc, rfl⟩ := hSB.shape
            have hkn := keysAt_nodup hnA hnd2 hlt2
            rw [keysAt_snoc hki] at hkn
            have hfit := prodK_fit (n := b.states) (B := sortO b.rules) hkn hu2
            refine KV (R_extract rfl rfl) rfl ?_
            refine K_nil ?_
            refine Q_then ?_
            refine K_seq ?_
            refine K_ifT rfl ?_
            refine K_skip ?_
            refine Q_then ?_
            refine K_block ?_
            refine K_seq ?_
            refine K_region ?_
            refine KV (R_entry 1 rfl rfl (.inl (hV _ _ hbA4)) hki) rfl ?_
            refine KV (R_extract rfl rfl) rfl ?_
            refine KV (R_extract rfl rfl) rfl ?_
            refine KV (R_assign rfl) rfl ?_
            refine KV (R_assign rfl) rfl ?_
            refine K_nil ?_
            refine Q_then ?_
            refine K_seq ?_
            refine K_region ?_
            refine KV (R_move rfl) rfl ?_
            refine KV (R_len sl48 rfl) rfl ?_
            refine KV (R_move rfl) rfl ?_
            refine K_nil ?_
            refine Q_then ?_
            refine K_block ?_
            have hE0 : prodK b.states (sortO a.rules) (sortO b.rules) (keysAt kvA seen2) ++ prodU b.states (symR (sortO a.rules) q) (symR (sortO b.rules) q) 0 = prodK b.states (sortO a.rules) (sortO b.rules) (keysAt kvA seen2) := by simp [prodU]
            refine K_loopD (G := Nat × View × Value × List Value) [16, 18, 19, 20, 78, 79, 80, 81, 82, 83, 84, 85, 86, 87, 88, 89, 90, 91, 92, 93, 94, 95, 96, 97, 98, 99, 100, 101, 102, 103, 104, 105, 106, 107, 108, 109, 110, 111, 112, 113, 114, 115, 116, 117, 118, 119, 120, 121, 122, 123, 124, 125, 126, 127, 128, 129, 130, 131] (fun g => [(78, .int .i64 (g.1 : Int))]) (fun hl g => ((hl.set 0 (row g.2.2.1 T85 3 (prodK b.states (sortO a.rules) (sortO b.rules) (keysAt kvA seen2) ++ prodU b.states (symR (sortO a.rules) q) (symR (sortO b.rules) q) g.1).length g.2.2.2)).set 3 (blk b7 (.cells #[.slice cka a.ranks.length ckc, .int .i64 (a.states * b.states), g.2.2.1, nilS] T50 (0, 0))))) (fun g => g.2.1) (fun g => (g.1 ≤ (symR (sortO a.rules) q).length) ∧ (VLe V g.2.1) ∧ (RepL (RepR g.2.1) 3 (prodK b.states (sortO a.rules) (sortO b.rules) (keysAt kvA seen2) ++ prodU b.states (symR (sortO a.rules) q) (symR (sortO b.rules) q) g.1) g.2.2.2) ∧ (∃ ad cp, g.2.2.1 = .slice ad (prodK b.states (sortO a.rules) (sortO b.rules) (keysAt kvA seen2) ++ prodU b.states (symR (sortO a.rules) q) (symR (sortO b.rules) q) g.1).length cp)) (fun g => (symR (sortO a.rules) q).length - g.1) (0, V, w, cells) ⟨Nat.zero_le _, VLe.refl _, by rw [hE0]; exact hC, by rw [hE0]; exact hw⟩ ⟨rfl, trivial⟩ (by simp only [args0, Nat.reduceAdd, del, memN, beqN, Nat.reduceBEq, cond_true, cond_false]; rfl) (by dsimp only [List.set]; rw [hE0]; try rfl) rfl ?_
            rintro ⟨i2, V2, w2, cells2⟩ ⟨hi20, hV2, hC2, hw2⟩
            dsimp only at hi20 hV2 hC2 hw2
            dsimp only [List.set, List.cons_append, List.nil_append]
            obtain ⟨w2a, w2c, rfl⟩ := hw2
            refine K_seq ?_
            refine K_region ?_
            refine KV (R_cmp rfl rfl rfl) rfl ?_
            refine K_nil ?_
            refine Q_then ?_
            refine K_seq ?_
            refine K_if rfl (fun h79 => ?_) (fun h79 => ?_)
            ·
              have hi2' : i2 < (symR (sortO a.rules) q).length := by omega
              obtain ⟨xb, xo, xva, xe, xc2, xrv⟩ := ((hU.mono hV).mono hV2).elem hi2'
              cases xe
              obtain ⟨xx, xy, hxe⟩ := xrv.1.shape
              dsimp only at hxe
              subst hxe
              obtain ⟨hxm, hxq⟩ := symR_mem.1 (List.getElem_mem hi2')
              obtain ⟨k1, k2, k3, k4, k5, k6⟩ := hoA.ru _ (sortO_mem.1 hxm)
              have hxs : SI V2 (.slice xx (symR (sortO a.rules) q)[i2].args.length xy) (symR (sortO a.rules) q)[i2].args := xrv.1
              have hxl2 := hoA.args2 _ (sortO_mem.1 hxm)
              refine K_skip ?_
              refine Q_then ?_
              refine K_seq ?_
              refine K_block ?_
              refine K_seq ?_
              refine K_region ?_
              refine KV (R_indexN sl48 ty85 rfl rfl (by omega)) rfl ?_
              refine KV (R_loadH ty85 rfl (xc2) rfl (fun e => by cases e) rfl) rfl ?_
              refine KA (A_alloc z85) rfl fun b16 => ?_
              refine K_storeW ty85 0 rfl rfl rfl rfl rfl rfl rfl ?_
              refine K_nil ?_
              refine Q_then ?_
              refine K_seq ?_
              refine K_region ?_
              refine KV (R_move rfl) rfl ?_
              refine KV (R_move rfl) rfl ?_
              refine KV (R_lookV mt2031 (by kernel_rfl) z48 rfl rfl (.inl ((hV.trans hV2) _ _ hbB)) hsv) rfl ?_
              refine KV (R_len sl48 rfl) rfl ?_
              refine KV (R_move rfl) rfl ?_
              refine K_nil ?_
              refine Q_then ?_
              refine K_block ?_
              have hE1 : (prodK b.states (sortO a.rules) (sortO b.rules) (keysAt kvA seen2) ++ prodU b.states (symR (sortO a.rules) q) (symR (sortO b.rules) q) i2) ++ ((symR (sortO b.rules) q).take 0).map (prR b.states (symR (sortO a.rules) q)[i2]) = prodK b.states (sortO a.rules) (sortO b.rules) (keysAt kvA seen2) ++ prodU b.states (symR (sortO a.rules) q) (symR (sortO b.rules) q) i2 := by simp
              refine K_loopD (G := Nat × View × Value × List Value) [18, 19, 20, 86, 87, 88, 89, 90, 91, 92, 93, 94, 95, 96, 97, 98, 99, 100, 101, 102, 103, 104, 105, 106, 107, 108, 109, 110, 111, 112, 113, 114, 115, 116, 117, 118, 119, 120, 121, 122, 123, 124, 125, 126, 127, 128, 129, 130] (fun g => [(86, .int .i64 (g.1 : Int))]) (fun hl g => ((hl.set 1 (row g.2.2.1 T85 3 ((prodK b.states (sortO a.rules) (sortO b.rules) (keysAt kvA seen2) ++ prodU b.states (symR (sortO a.rules) q) (symR (sortO b.rules) q) i2) ++ ((symR (sortO b.rules) q).take g.1).map (prR b.states (symR (sortO a.rules) q)[i2])).length g.2.2.2)).set 4 (blk b7 (.cells #[.slice cka a.ranks.length ckc, .int .i64 (a.states * b.states), g.2.2.1, nilS] T50 (0, 0))))) (fun g => g.2.1) (fun g => (g.1 ≤ (symR (sortO b.rules) q).length) ∧ (VLe V2 g.2.1) ∧ (RepL (RepR g.2.1) 3 ((prodK b.states (sortO a.rules) (sortO b.rules) (keysAt kvA seen2) ++ prodU b.states (symR (sortO a.rules) q) (symR (sortO b.rules) q) i2) ++ ((symR (sortO b.rules) q).take g.1).map (prR b.states (symR (sortO a.rules) q)[i2])) g.2.2.2) ∧ (∃ ad cp, g.2.2.1 = .slice ad ((prodK b.states (sortO a.rules) (sortO b.rules) (keysAt kvA seen2) ++ prodU b.states (symR (sortO a.rules) q) (symR (sortO b.rules) q) i2) ++ ((symR (sortO b.rules) q).take g.1).map (prR b.states (symR (sortO a.rules) q)[i2])).length cp)) (fun g => (symR (sortO b.rules) q).length - g.1) (0, V2, .slice w2a (prodK b.states (sortO a.rules) (sortO b.rules) (keysAt kvA seen2) ++ prodU b.states (symR (sortO a.rules) q) (symR (sortO b.rules) q) i2).length w2c, cells2) ⟨Nat.zero_le _, VLe.refl _, by rw [hE1]; exact hC2, _, _, by rw [hE1]⟩ ⟨rfl, trivial⟩ (by simp only [args0, Nat.reduceAdd, del, memN, beqN, Nat.reduceBEq, cond_true, cond_false]; rfl) (by dsimp only [List.set]; rw [hE1]; try rfl) rfl ?_
              rintro ⟨j2, V3, w3, cells3⟩ ⟨hj20, hV3, hC3, hw3⟩
              dsimp only at hj20 hV3 hC3 hw3
              dsimp only [List.set, List.cons_append, List.nil_append]
              obtain ⟨w3a, w3c, rfl⟩ := hw3
              have hpl3 : ((prodK b.states (sortO a.rules) (sortO b.rules) (keysAt kvA seen2) ++ prodU b.states (symR (sortO a.rules) q) (symR (sortO b.rules) q) i2) ++ ((symR (sortO b.rules) q).take j2).map (prR b.states (symR (sortO a.rules) q)[i2])).length = (prodK b.states (sortO a.rules) (sortO b.rules) (keysAt kvA seen2)).length + i2 * (symR (sortO b.rules) q).length + j2 := by
                rw [List.length_append, List.length_append, prodU_len b.states _ _ i2 (by omega), List.length_map, List.length_take, Nat.min_eq_left hj20]
              refine K_seq ?_
              refine K_region ?_
              refine KV (R_cmp rfl rfl rfl) rfl ?_
              refine K_nil ?_
              refine Q_then ?_
              refine K_seq ?_
              refine K_if rfl (fun h87 => ?_) (fun h87 => ?_)
              ·
                have hj2' : j2 < (symR (sortO b.rules) q).length := by omega
                obtain ⟨yb, yo, yva, ye, yc2, yrv⟩ := (hSB.mono (hV.trans (hV2.trans hV3))).elem hj2'
                cases ye
                obtain ⟨yx, yy, hye⟩ := yrv.1.shape
                dsimp only at hye
                subst hye
                obtain ⟨hym, hyq⟩ := symR_mem.1 (List.getElem_mem hj2')
                obtain ⟨l1, l2, l3, l4, l5, l6⟩ := hoB.ru _ (sortO_mem.1 hym)
                have hsr := sameRank hoA hoB hrr (sortO_mem.1 hxm) (sortO_mem.1 hym) (hyq.trans hxq.symm)
                have hmb := mul_bound ⟨k5, k6⟩ ⟨l5, l6⟩
                have hmn : 0 ≤ (symR (sortO a.rules) q)[i2].to * b.states := Int.mul_nonneg k5 hsB.1
                have hpf := part_fit hi2' hj2'
                have hys : SI V3 (.slice yx (symR (sortO b.rules) q)[j2].args.length yy) (symR (sortO b.rules) q)[j2].args := yrv.1
                refine K_skip ?_
                refine Q_then ?_
                refine K_seq ?_
                refine K_block ?_
                refine K_seq ?_
                refine K_region ?_
                refine KV (R_indexN sl48 ty85 rfl rfl (by omega)) rfl ?_
                refine KV (R_loadH ty85 rfl (yc2) rfl (fun e => by cases e) rfl) rfl ?_
                refine KA (A_alloc z85) rfl fun b18 => ?_
                refine K_storeW ty85 0 rfl rfl rfl rfl rfl rfl rfl ?_
                refine K_nil ?_
                refine Q_then ?_
                refine K_seq ?_
                refine K_region ?_
                refine KV (R_assign rfl) rfl ?_
                refine K_nil ?_
                refine Q_then ?_
                refine K_seq ?_
                refine K_seq ?_
                refine K_region ?_
                refine KV (R_fieldAddr 1 fd85_1 rfl) rfl ?_
                refine KV (R_loadO ty25 1 rfl rfl rfl rfl (fun _ => rfl) rfl) rfl ?_
                refine KV (R_len sl25 rfl) rfl ?_
                refine KV (R_move rfl) rfl ?_
                refine K_nil ?_
                refine Q_then ?_
                refine K_block ?_
                refine K_nilrow T3 1 ?_
                refine K_loopD (G := Nat × Value) [19, 20, 93, 94, 95, 96, 97, 98, 99, 100, 101, 102, 103, 104, 105, 106, 107, 108, 109, 110, 111, 112, 113] (fun g => [(93, .int .i64 (g.1 : Int)), (19, g.2)]) (fun hl g => (hl.set 0 (row g.2 T3 1 g.1 (ints (prArgs b.states ((symR (sortO a.rules) q)[i2].args.take g.1) ((symR (sortO b.rules) q)[j2].args.take g.1)))))) (fun g => V3) (fun g => (g.1 ≤ (symR (sortO a.rules) q)[i2].args.length) ∧ (∃ ad cp, g.2 = .slice ad g.1 cp)) (fun g => (symR (sortO a.rules) q)[i2].args.length - g.1) (0, nilS) ⟨Nat.zero_le _, _, _, rfl⟩ ⟨rfl, rfl, trivial⟩ (by simp only [args0, Nat.reduceAdd, del, memN, beqN, Nat.reduceBEq, cond_true, cond_false]; rfl) rfl rfl ?_
                rintro ⟨k, z⟩ ⟨hk, hz⟩
                dsimp only at hk hz
                dsimp only [List.set, List.cons_append, List.nil_append]
                obtain ⟨za, zc, rfl⟩ := hz
                refine K_seq ?_
                refine K_region ?_
                refine KV (R_cmp rfl rfl rfl) rfl ?_
                refine K_nil ?_
                refine Q_then ?_
                refine K_seq ?_
                refine K_if rfl (fun h94 => ?_) (fun h94 => ?_)
                ·
                  have hk' : k < (symR (sortO a.rules) q)[i2].args.length := by omega
                  have hk2 : k < (symR (sortO b.rules) q)[j2].args.length := by omega
                  obtain ⟨ub2, uo2, hue, hux⟩ := (hxs.mono hV3).get hk'
                  cases hue
                  obtain ⟨vb2, vo2, hve, hvx⟩ := hys.get hk2
                  cases hve
                  have q1 := k4 _ (List.getElem_mem hk')
                  have q2 := l4 _ (List.getElem_mem hk2)
                  have hmz := mul_bound q1 q2
                  have hmn2 : 0 ≤ (symR (sortO a.rules) q)[i2].args[k] * b.states := Int.mul_nonneg q1.1 hsB.1
                  refine K_skip ?_
                  refine Q_then ?_
                  refine K_seq ?_
                  refine K_block ?_
                  refine K_seq ?_
                  refine K_region ?_
                  refine KV (R_move rfl) rfl ?_
                  refine KV (R_assign rfl) rfl ?_
                  refine K_nil ?_
                  refine Q_then ?_
                  refine K_regionD (fin := false) (R := [0, 1, 2, 3, 4, 5, 6, 7, 8, 9, 10, 11, 12, 13, 14, 15, 16, 17]) (by kernel_rfl) mixed (.cons _ (.cons_cons _ (.cons_cons _ (.cons_cons _ (.cons_cons _ (.cons_cons _ (.cons_cons _ (.cons_cons _ (.cons_cons _ (.cons_cons _ (List.nil_sublist _))))))))))) ?_
                  refine D_val rfl rfl rfl (R_move rfl) ?_
                  refine D_val rfl rfl rfl (R_fieldAddr 1 fd85_1 rfl) ?_
                  refine D_val rfl rfl rfl (R_loadO ty25 1 rfl rfl rfl rfl (fun _ => rfl) rfl) ?_
                  refine D_val rfl rfl rfl (R_move rfl) ?_
                  refine D_val rfl rfl rfl (R_index sl25 ty3 rfl rfl ⟨by omega, by omega⟩) ?_
                  refine D_val rfl rfl rfl (R_loadH ty3 rfl (hux) rfl (fun _ => rfl) rfl) ?_
                  refine D_val rfl rfl rfl (R_fieldAddr 1 fd50_1 rfl) ?_
                  refine D_val rfl rfl rfl (R_loadO ty3 7 rfl rfl rfl rfl (fun _ => rfl) rfl) ?_
                  refine D_val rfl rfl rfl (R_mul rfl rfl (by omega)) ?_
                  refine D_val rfl rfl rfl (R_fieldAddr 1 fd85_1 rfl) ?_
                  refine D_val rfl rfl rfl (R_loadO ty25 0 rfl rfl rfl rfl (fun _ => rfl) rfl) ?_
                  refine D_val rfl rfl rfl (R_move rfl) ?_
                  refine D_val rfl rfl rfl (R_index sl25 ty3 rfl rfl ⟨by omega, by omega⟩) ?_
                  refine D_val rfl rfl rfl (R_loadH ty3 rfl (hvx) rfl (fun _ => rfl) rfl) ?_
                  refine D_val rfl rfl rfl (R_add rfl rfl (by omega)) ?_
                  refine D_alloc rfl rfl rfl (A_buildSlice (vs := [.int .i64 ((symR (sortO a.rules) q)[i2].args[k] * b.states + (symR (sortO b.rules) q)[j2].args[k])]) sl25 ty3 z3 rfl rfl (by simp [Value.cells]) (by simp) rfl (by decide)) fun b111 => ?_
                  refine D_append1 0 ap25 rfl rfl rfl rfl rfl rfl ⟨⟨0, rfl⟩, ⟨1, rfl⟩, ⟨2, rfl⟩, ⟨3, rfl⟩, ⟨4, rfl⟩, ⟨5, rfl⟩, ⟨6, rfl⟩, ⟨7, rfl⟩, ⟨8, rfl⟩, trivial⟩ rfl rfl ⟨by omega, by omega⟩ fun a112 k112 hn112 => ?_
                  refine D_val rfl rfl rfl (R_assign rfl) ?_
                  refine D_done ?_
                  refine Q_block ?_
                  refine Q_then ?_
                  refine K_region ?_
                  refine KV (R_add rfl rfl (by omega)) rfl ?_
                  refine KV (R_move rfl) rfl ?_
                  refine K_nil ?_
                  refine Q_nextD (k + 1, .slice a112 (k + 1) k112) ⟨hk', _, _, rfl⟩ (by (try dsimp only); omega) ⟨rfl, rfl, trivial⟩ rfl (by dsimp only [List.set]; rw [prArgs_snoc hk' hk2, ints_append _ [_]]; try rfl) rfl
                ·
                  have hk' : k = (symR (sortO a.rules) q)[i2].args.length := by omega
                  subst hk'
                  rw [List.take_length, hsr, List.take_length]
                  rw [← hsr]
                  refine K_exit ?_
                  refine Q_then_exit ?_
                  refine Q_then_exit ?_
                  refine Q_block_exit ?_
                  refine Q_then ?_
                  refine KC_front 0 rfl ?_
                  try dsimp only [List.eraseIdx]
                  refine KC_pubrow rfl fun U hU' hargs => ?_
                  skip
                  refine K_region ?_
                  refine KV (R_fieldAddr 2 fd50_2 rfl) rfl ?_
                  refine KV (R_loadO ty48 5 rfl rfl rfl rfl (fun _ => rfl) rfl) rfl ?_
                  refine KV (R_move rfl) rfl ?_
                  refine KV (R_move rfl) rfl ?_
                  refine KV (R_fieldAddr 2 fd85_2 rfl) rfl ?_
                  refine KV (R_loadO ty3 1 rfl rfl rfl rfl (fun _ => rfl) rfl) rfl ?_
                  refine KV (R_fieldAddr 1 fd50_1 rfl) rfl ?_
                  refine KV (R_loadO ty3 7 rfl rfl rfl rfl (fun _ => rfl) rfl) rfl ?_
                  refine KV (R_mul rfl rfl (by omega)) rfl ?_
                  refine KV (R_fieldAddr 2 fd85_2 rfl) rfl ?_
                  refine KV (R_loadO ty3 0 rfl rfl rfl rfl (fun _ => rfl) rfl) rfl ?_
                  refine KV (R_add rfl rfl (by omega)) rfl ?_
                  refine KV (R_build z85 pl85 rfl rfl) rfl ?_
                  refine KA (A_buildSlice (vs := [.agg #[.int .i64 q, .slice za (symR (sortO a.rules) q)[i2].args.length zc, .int .i64 ((symR (sortO a.rules) q)[i2].to * b.states + (symR (sortO b.rules) q)[j2].to)]]) sl48 ty85 z85 rfl rfl (by simp [Value.cells]) (by simp) rfl (by decide)) rfl fun b127 => ?_
                  refine K_append1 2 ap48 rfl rfl rfl rfl rfl rfl ⟨by omega, by omega⟩ rfl fun a128 k128 hn128 => ?_
                  refine KV (R_fieldAddr 2 fd50_2 rfl) rfl ?_
                  refine K_store ty48 5 rfl rfl rfl rfl rfl rfl ?_
                  refine K_nil ?_
                  refine Q_block ?_
                  refine Q_then ?_
                  refine K_region ?_
                  refine KV (R_add rfl rfl (by omega)) rfl ?_
                  refine KV (R_move rfl) rfl ?_
                  refine K_nil ?_
                  refine KQ_sel [2, 0, 1, 1, 1, 1, 1, 1] rfl ?_
                  have hE2 : (prodK b.states (sortO a.rules) (sortO b.rules) (keysAt kvA seen2) ++ prodU b.states (symR (sortO a.rules) q) (symR (sortO b.rules) q) i2) ++ ((symR (sortO b.rules) q).take (j2 + 1)).map (prR b.states (symR (sortO a.rules) q)[i2]) = ((prodK b.states (sortO a.rules) (sortO b.rules) (keysAt kvA seen2) ++ prodU b.states (symR (sortO a.rules) q) (symR (sortO b.rules) q) i2) ++ ((symR (sortO b.rules) q).take j2).map (prR b.states (symR (sortO a.rules) q)[i2])) ++ [prR b.states (symR (sortO a.rules) q)[i2] (symR (sortO b.rules) q)[j2]] := by rw [List.take_succ_eq_append_getElem hj2', List.map_append, ← List.append_assoc]; rfl
                  have hal : (prR b.states (symR (sortO a.rules) q)[i2] (symR (sortO b.rules) q)[j2]).args.length = (symR (sortO a.rules) q)[i2].args.length := prArgs_len (n := b.states) hsr
                  have hrep : RepR U (prR b.states (symR (sortO a.rules) q)[i2] (symR (sortO b.rules) q)[j2]) [.int .i64 q, .slice za (symR (sortO a.rules) q)[i2].args.length zc, .int .i64 ((symR (sortO a.rules) q)[i2].to * b.states + (symR (sortO b.rules) q)[j2].to)] := by
                    refine ⟨za, zc, by rw [hal]; show _ = [Value.int .i64 (symR (sortO a.rules) q)[i2].sym, _, _]; rw [hxq]; rfl, ⟨by rw [hal]; exact hargs.sl, fun x hx => ?_⟩, xrv.2.2.1, by show i64ok ((symR (sortO a.rules) q)[i2].to * b.states + (symR (sortO b.rules) q)[j2].to); simp only [i64ok]; omega, by rw [hal]; exact xrv.2.1⟩
                    obtain ⟨u, hu3, v, hv9, rfl⟩ := prArgs_mem hx
                    have h9 := mul_bound (k4 u hu3) (l4 v hv9)
                    simp only [i64ok]; omega
                  refine Q_nextD (j2 + 1, U, .slice a128 (((prodK b.states (sortO a.rules) (sortO b.rules) (keysAt kvA seen2) ++ prodU b.states (symR (sortO a.rules) q) (symR (sortO b.rules) q) i2) ++ ((symR (sortO b.rules) q).take j2).map (prR b.states (symR (sortO a.rules) q)[i2])).length + 1) k128, cells3 ++ [.int .i64 q, .slice za (symR (sortO a.rules) q)[i2].args.length zc, .int .i64 ((symR (sortO a.rules) q)[i2].to * b.states + (symR (sortO b.rules) q)[j2].to)]) ⟨hj2', hV3.trans hU', by rw [hE2]; exact (hC3.imp fun x cs h => h.mono hU').snoc hrep rfl, _, _, by rw [hE2, List.length_append (bs := [_])]; rfl⟩ (by (try dsimp only); omega) ⟨rfl, trivial⟩ rfl (by dsimp only [List.set]; rw [hE2, List.length_append (bs := [_])]; try rfl) rfl
              ·
                have hj2' : j2 = (symR (sortO b.rules) q).length := by omega
                refine K_exit ?_
                refine Q_then_exit ?_
                refine Q_then_exit ?_
                refine Q_block_exit ?_
                refine Q_block ?_
                refine Q_then ?_
                refine K_region ?_
                refine KV (R_add rfl rfl (by omega)) rfl ?_
                refine KV (R_move rfl) rfl ?_
                refine K_nil ?_
                refine KQ_sel [1, 1, 1, 1, 1, 1, 1] rfl ?_
                have hE : (prodK b.states (sortO a.rules) (sortO b.rules) (keysAt kvA seen2) ++ prodU b.states (symR (sortO a.rules) q) (symR (sortO b.rules) q) i2) ++ ((symR (sortO b.rules) q).take j2).map (prR b.states (symR (sortO a.rules) q)[i2]) = prodK b.states (sortO a.rules) (sortO b.rules) (keysAt kvA seen2) ++ prodU b.states (symR (sortO a.rules) q) (symR (sortO b.rules) q) (i2 + 1) := by rw [hj2', List.take_length, prodU_succ b.states hi2', List.append_assoc]
                rw [hE] at hC3
                rw [hE]
                refine Q_nextD (i2 + 1, V3, .slice w3a (prodK b.states (sortO a.rules) (sortO b.rules) (keysAt kvA seen2) ++ prodU b.states (symR (sortO a.rules) q) (symR (sortO b.rules) q) (i2 + 1)).length w3c, cells3) ⟨hi2', hV2.trans hV3, hC3, _, _, rfl⟩ (by (try dsimp only); omega) ⟨rfl, trivial⟩ rfl rfl rfl
            ·
              have hi2' : i2 = (symR (sortO a.rules) q).length := by omega
              refine K_exit ?_
              refine Q_then_exit ?_
              refine Q_then_exit ?_
              refine Q_block_exit ?_
              refine Q_block ?_
              have hE : prodK b.states (sortO a.rules) (sortO b.rules) (keysAt kvA seen2) ++ prodU b.states (symR (sortO a.rules) q) (symR (sortO b.rules) q) i2 = prodK b.states (sortO a.rules) (sortO b.rules) (keysAt kvA (seen2 ++ [i])) := by rw [hi2', prodU_all, keysAt_snoc hki, prodK_snoc]
              rw [hE] at hC2
              rw [hE]
              refine Q_nextD (seen2 ++ [i], V2, .slice w2a (prodK b.states (sortO a.rules) (sortO b.rules) (keysAt kvA (seen2 ++ [i]))).length w2c, cells2) ⟨hnd2, hlt2, hV.trans hV2, hC2, _, _, rfl⟩ (by (try dsimp only); rw [List.length_append]; simp only [List.length_cons, List.length_nil]; omega) trivial rfl rfl rfl
    ·
      obtain ⟨hnd2, hlt2, hle2⟩ := seen_snoc hsn hslt hni (List.getElem?_eq_some_iff.1 hki).1
      have hU := book_at hnA hrA4 hki
      obtain ⟨ua, uc, rfl⟩ := hU.shape
      have hXl : (symR (sortO a.rules) q).length ≤ 65536 := Nat.le_trans (List.length_filter_le _ _) (Nat.le_trans (sortO_len _) hoA.ul)
      have hYl : (symR (sortO b.rules) q).length ≤ 65536 := Nat.le_trans (List.length_filter_le _ _) (Nat.le_trans (sortO_len _) hoB.ul)
      have hSB := hrB q
      generalize hsv : (lookI kvB q).getD nilS = sv at hSB
      obtain ⟨sa, sc, rfl⟩ := hSB.shape
      have hkn := keysAt_nodup hnA hnd2 hlt2
      rw [keysAt_snoc hki] at hkn
      have hfit := prodK_fit (n := b.states) (B := sortO b.rules) hkn hu2
      refine KV (R_extract rfl rfl) rfl ?_
      refine K_nil ?_
      refine Q_then ?_
      refine K_seq ?_
      refine K_ifT rfl ?_
      refine K_skip ?_
      refine Q_then ?_
      refine K_block ?_
      refine K_seq ?_
      refine K_region ?_
      refine KV (R_entry 0 rfl rfl (.inl hbA4) hki) rfl ?_
      refine KV (R_extract rfl rfl) rfl ?_
      refine KV (R_extract rfl rfl) rfl ?_
      refine KV (R_assign rfl) rfl ?_
      refine KV (R_assign rfl) rfl ?_
      refine K_nil ?_
      refine Q_then ?_
      refine K_region ?_
      refine KV (R_move rfl) rfl ?_
      refine KV (R_move rfl) rfl ?_
      refine KV (R_len sl48 rfl) rfl ?_
      refine KV (R_move rfl) rfl ?_
      refine KV (R_move rfl) rfl ?_
      refine KV (R_lookV mt2031 (by kernel_rfl) z48 rfl rfl (.inl hbB) hsv) rfl ?_
      refine KV (R_len sl48 rfl) rfl ?_
      refine KV (R_mul rfl rfl (by omega)) rfl ?_
      refine KV (R_add rfl rfl (by omega)) rfl ?_
      refine KV (R_assign rfl) rfl ?_
      refine K_nil ?_
      refine Q_block ?_
      refine Q_nextD (seen ++ [i]) ⟨hnd2, hlt2⟩ (by (try dsimp only); rw [List.length_append]; simp only [List.length_cons, List.length_nil]; omega) ⟨congrArg (fun z => some (Value.int .i64 z)) (by rw [keysAt_snoc hki, prodK_snoc, List.length_append, prodQ_len]; omega), trivial⟩ rfl rfl rfl
end Go.Proofs.X

namespace Go.Proofs.X
open Go Pal Go.Proofs
attribute [local irreducible] Pal.KO Pal.KC Pal.KQ Pal.KD
theorem c2031 : callable Tryz.prog F2031 = true := by kernel_rfl
theorem c2032 : callable Tryz.prog F2032 = true := by kernel_rfl
theorem c2033 : callable Tryz.prog F2033 = true := by kernel_rfl
theorem c2034 : callable Tryz.prog F2034 = true := by kernel_rfl
theorem products_law (a b : Au) (v1 v2 v3 w1 w2 w3 : Value) (H : View) (ha : RepAu H a v1 v2 v3) (hb : RepAu H b w1 w2 w3) : Sat Tryz.prog F2006 #[.agg #[v1, .int .i64 a.states, v2, v3], .agg #[w1, .int .i64 b.states, w2, w3]] H (fun v _ => v = .bool true) := by
  obtain ⟨ar, arc, rfl⟩ := ha.r.shape
  obtain ⟨af, afc, rfl⟩ := ha.f.shape
  obtain ⟨au, auc, rfl⟩ := ha.ushape
  obtain ⟨br, brc, rfl⟩ := hb.r.shape
  obtain ⟨bf, bfc, rfl⟩ := hb.f.shape
  obtain ⟨bu, buc, rfl⟩ := hb.ushape
  refine enterO (n := 92) (args := [.agg #[.slice ar a.ranks.length arc, .int .i64 a.states, .slice au a.rules.length auc, .slice af a.final.length afc], .agg #[.slice br b.ranks.length brc, .int .i64 b.states, .slice bu b.rules.length buc, .slice bf b.final.length bfc]]) Tryz.func9 rfl rfl rfl fun w0 => ?_
  refine K_seq ?_
  refine K_region ?_
  refine KA (A_box rfl) rfl fun b2 => ?_
  refine KA (A_box rfl) rfl fun b3 => ?_
  refine KV (R_assign rfl) rfl ?_
  refine K_nil ?_
  refine Q_then ?_
  refine K_seq ?_
  refine K_seq ?_
  refine K_region ?_
  refine K_call c2009 rfl rfl (known32_spec _) ?_
  rintro _ V1 hv1 rfl
  refine KV (R_not rfl) rfl ?_
  refine K_nil ?_
  refine Q_then ?_
  refine K_ifB rfl (fun h11 => ?_) (fun h11 => ?_)
  ·
    cases h11
  ·
    refine K_skip ?_
    refine Q_then ?_
    refine K_seq ?_
    refine K_seq ?_
    refine K_region ?_
    refine KV (R_loadW ty42 1 rfl rfl rfl rfl) rfl ?_
    refine K_call c15 rfl rfl (few_spec a _ _ _ V1 (ha.mono hv1)) ?_
    rintro _ V2 hv2 rfl
    refine KV (R_notP rfl) rfl ?_
    refine KV (R_move rfl) rfl ?_
    refine K_split ?_ ?_
    ·
      intro h15
      refine K_gno rfl rfl rfl rfl ?_
      refine K_gno rfl rfl rfl rfl ?_
      refine K_gno rfl rfl rfl rfl ?_
      refine KV (R_pickT rfl rfl) rfl ?_
      refine K_nil ?_
      refine Q_then ?_
      refine K_ifT rfl ?_
      refine K_seq ?_
      refine K_region ?_
      refine KV (R_assign rfl) rfl ?_
      refine K_nil ?_
      refine Q_then ?_
      refine K_ret ?_
      refine Q_then_ret ?_
      refine results_gen (rs := [.tmp 4]) (vs := [_]) rfl ⟨rfl, trivial⟩ ?_
      first | rfl | exact congrArg Value.bool (decide_eq_true rfl)
    ·
      intro h15
      have hfa := Decidable.not_not.1 h15
      refine K_gyes rfl rfl ?_
      refine KV (R_loadW ty42 0 rfl rfl rfl rfl) rfl ?_
      refine K_gyes rfl rfl ?_
      refine K_call c15 rfl rfl (few_spec b _ _ _ V2 (hb.mono (hv1.trans hv2))) ?_
      rintro _ V3 hv3 rfl
      refine K_gyes rfl rfl ?_
      refine KV (R_notP rfl) rfl ?_
      refine KV (R_pickF rfl rfl) rfl ?_
      refine K_nil ?_
      refine Q_then ?_
      refine K_if rfl (fun h19 => ?_) (fun h19 => ?_)
      ·
        refine K_seq ?_
        refine K_region ?_
        refine KV (R_assign rfl) rfl ?_
        refine K_nil ?_
        refine Q_then ?_
        refine K_ret ?_
        refine Q_then_ret ?_
        refine results_gen (rs := [.tmp 4]) (vs := [_]) rfl ⟨rfl, trivial⟩ ?_
        first | rfl | exact congrArg Value.bool (decide_eq_true rfl)
      ·
        have hfb := Decidable.not_not.1 h19
        have hvA : VLe H V3 := hv1.trans (hv2.trans hv3)
        have hs : a.states + b.states ≤ 256 := by omega
        have hu : a.rules.length + b.rules.length ≤ 65536 := by omega
        have hu2 : a.rules.length * b.rules.length ≤ 65536 := Nat.le_trans (Nat.mul_le_mul hfa.2.2.1 hfb.2.2.1) (by decide)
        have hff : a.final.length * b.final.length ≤ 1048576 := Nat.le_trans (Nat.mul_le_mul hfa.2.2.2 hfb.2.2.2) (by decide)
        have hs2 : twoErr a b = 0 → a.states * b.states ≤ 256 := fun h => by
          obtain ⟨z1, z2, _⟩ := twoErr_zero h
          have s1 := (AuOk.of z1).st
          have s2 := (AuOk.of z2).st
          have := Int.mul_le_mul hfa.2.1 hfb.2.1 s2.1 (by decide)
          omega
        refine K_skip ?_
        refine Q_then ?_
        refine K_seq ?_
        refine K_regionD (fin := false) (R := [0, 2, 1, 3, 4, 5, 6, 7, 8, 9, 10]) (by kernel_rfl) mixed (.cons_cons _ (.cons_cons _ (List.nil_sublist _))) ?_
        refine D_val rfl rfl rfl (R_loadW ty42 1 rfl rfl rfl rfl) ?_
        refine D_val rfl rfl rfl (R_loadW ty42 0 rfl rfl rfl rfl) ?_
        refine D_call rfl rfl c17 rfl ⟨⟨0, rfl⟩, ⟨1, rfl⟩, trivial⟩ (to_spec a _ _ _ V3 (ha.mono hvA)) ?_
        rintro _ V4 hv4 ⟨x1, x2, x3, rfl, hx⟩
        refine D_call rfl rfl c17 rfl ⟨⟨0, rfl⟩, ⟨1, rfl⟩, trivial⟩ (to_spec b _ _ _ V4 (hb.mono (hvA.trans hv4))) ?_
        rintro _ V5 hv5 ⟨y1, y2, y3, rfl, hy⟩
        refine D_call rfl rfl c2031 rfl ⟨⟨0, rfl⟩, ⟨1, rfl⟩, trivial⟩ (union_spec a b _ _ _ _ _ _ V5 (hx.mono hv5) hy hs hu) ?_
        rintro _ V6 hv6 ⟨n1, n2, n3, rfl, hB⟩
        have uAE : twoErr a b ≠ 0 → errAu (twoErr a b) (normA (uniA a b)) = zeroA := errAu_no
        have uA0 : twoErr a b = 0 → errAu (twoErr a b) (normA (uniA a b)) = normA (uniA a b) := errAu_ok
        generalize errAu (twoErr a b) (normA (uniA a b)) = uA at hB uAE uA0 ⊢
        obtain ⟨ur, urc, rfl⟩ := hB.r.shape
        obtain ⟨uf, ufc, rfl⟩ := hB.f.shape
        obtain ⟨uu, uuc, rfl⟩ := hB.ushape
        have hvB := hvA.trans (hv4.trans (hv5.trans hv6))
        refine D_val rfl rfl rfl (R_move rfl) ?_
        refine D_val rfl rfl rfl (R_extract rfl rfl) ?_
        refine D_val rfl rfl rfl (R_extract rfl rfl) ?_
        refine D_alloc rfl rfl rfl (A_alloc z50) fun b5 => ?_
        refine D_storeW ty50 0 rfl rfl rfl rfl rfl ⟨⟨0, rfl⟩, ⟨1, rfl⟩, trivial⟩ rfl rfl rfl rfl ?_
        refine D_val rfl rfl rfl (R_assign rfl) ?_
        refine D_done ?_
        refine Q_then ?_
        refine K_seq ?_
        refine K_regionD (fin := false) (R := [0, 2, 1, 3, 4, 5, 6, 7, 8, 9, 10]) (by kernel_rfl) mixed (.cons_cons _ (.cons_cons _ (.cons_cons _ (List.nil_sublist _)))) ?_
        refine D_val rfl rfl rfl (R_loadW ty42 2 rfl rfl rfl rfl) ?_
        refine D_val rfl rfl rfl (R_loadW ty42 1 rfl rfl rfl rfl) ?_
        refine D_call rfl rfl c17 rfl ⟨⟨0, rfl⟩, ⟨1, rfl⟩, ⟨2, rfl⟩, trivial⟩ (to_spec a _ _ _ V6 (ha.mono hvB)) ?_
        rintro _ V7 hv7 ⟨p1, p2, p3, rfl, hp1⟩
        refine D_call rfl rfl c17 rfl ⟨⟨0, rfl⟩, ⟨1, rfl⟩, ⟨2, rfl⟩, trivial⟩ (to_spec b _ _ _ V7 (hb.mono (hvB.trans hv7))) ?_
        rintro _ V8 hv8 ⟨q1, q2, q3, rfl, hq1⟩
        refine D_call rfl rfl c2032 rfl ⟨⟨0, rfl⟩, ⟨1, rfl⟩, ⟨2, rfl⟩, trivial⟩ (inter_spec a b _ _ _ _ _ _ V8 (hp1.mono hv8) hq1 hs2 hu2 hff) ?_
        rintro _ V9 hv9 ⟨m1, m2, m3, rfl, hC⟩
        have iAE : twoErr a b ≠ 0 → errAu (twoErr a b) (normA (intA a b)) = zeroA := errAu_no
        have iA0 : twoErr a b = 0 → errAu (twoErr a b) (normA (intA a b)) = normA (intA a b) := errAu_ok
        generalize errAu (twoErr a b) (normA (intA a b)) = iA at hC iAE iA0 ⊢
        obtain ⟨jr, jrc, rfl⟩ := hC.r.shape
        obtain ⟨jf, jfc, rfl⟩ := hC.f.shape
        obtain ⟨ju, juc, rfl⟩ := hC.ushape
        have hvC := hvB.trans (hv7.trans (hv8.trans hv9))
        have hB9 := hB.mono (hv7.trans (hv8.trans hv9))
        refine D_val rfl rfl rfl (R_move rfl) ?_
        refine D_val rfl rfl rfl (R_extract rfl rfl) ?_
        refine D_val rfl rfl rfl (R_extract rfl rfl) ?_
        refine D_alloc rfl rfl rfl (A_alloc z50) fun b7 => ?_
        refine D_storeW ty50 0 rfl rfl rfl rfl rfl ⟨⟨0, rfl⟩, ⟨1, rfl⟩, ⟨2, rfl⟩, trivial⟩ rfl rfl rfl rfl ?_
        refine D_val rfl rfl rfl (R_assign rfl) ?_
        refine D_done ?_
        refine Q_then ?_
        refine K_seq ?_
        refine K_region ?_
        refine KV (R_loadW ty42 3 rfl rfl rfl rfl) rfl ?_
        refine K_call c20 rfl rfl (rcheck_spec a _ _ _ V9 (ha.mono hvC)) ?_
        rintro _ V10 hv10 rfl
        refine KV (R_assign rfl) rfl ?_
        refine K_nil ?_
        refine Q_then ?_
        refine K_seq ?_
        refine K_seq ?_
        refine K_region ?_
        refine KV (R_move rfl) rfl ?_
        refine KV (R_cmp rfl rfl rfl) rfl ?_
        refine K_nil ?_
        refine Q_then ?_
        refine K_if rfl (fun h39 => ?_) (fun h39 => ?_)
        ·
          refine K_region ?_
          refine KV (R_loadW ty42 2 rfl rfl rfl rfl) rfl ?_
          refine K_call c20 rfl rfl (rcheck_spec b _ _ _ V10 (hb.mono (hvC.trans hv10))) ?_
          rintro _ V11 hv11 rfl
          refine KV (R_assign rfl) rfl ?_
          refine K_nil ?_
          refine Q_then ?_
          refine K_seq ?_
          refine K_seq ?_
          refine K_region ?_
          refine KV (R_move rfl) rfl ?_
          refine KV (R_cmp rfl rfl rfl) rfl ?_
          refine KV (R_move rfl) rfl ?_
          refine K_split ?_ ?_
          ·
            intro h44
            have hvDum := hv11
            refine K_gyes rfl rfl ?_
            refine KV (R_fieldAddr 0 fd42_0 rfl) rfl ?_
            refine K_gyes rfl rfl ?_
            refine KV (R_loadO ty25 3 rfl rfl rfl rfl (fun _ => rfl) rfl) rfl ?_
            refine K_gyes rfl rfl ?_
            refine KV (R_fieldAddr 0 fd42_0 rfl) rfl ?_
            refine K_gyes rfl rfl ?_
            refine KV (R_loadO ty25 2 rfl rfl rfl rfl (fun _ => rfl) rfl) rfl ?_
            refine K_gyes rfl rfl ?_
            refine K_call c60 rfl rfl (cmpl_spec a.ranks b.ranks _ _ V11 (ha.mono (hvC.trans (hv10.trans hv11))).r (hb.mono (hvC.trans (hv10.trans hv11))).r ha.rl hb.rl) ?_
            rintro _ V12 hv12 rfl
            have hvD := hvC.trans (hv10.trans (hv11.trans hv12))
            refine K_gyes rfl rfl ?_
            refine KV (R_cmp rfl rfl rfl) rfl ?_
            refine KV (R_pickT rfl rfl) rfl ?_
            refine K_nil ?_
            refine Q_then ?_
            refine K_if rfl (fun h51 => ?_) (fun h51 => ?_)
            ·
              have hrn : a.ranks ≠ b.ranks := fun e => h51 (by rw [e]; exact cmpL_self _)
              have htE : twoErr a b = 3 := by unfold twoErr; rw [if_neg (not_not_intro h39), if_neg (not_not_intro h44), if_neg hrn]
              refine K_region ?_
              refine KV (R_assign rfl) rfl ?_
              refine K_nil ?_
              refine Q_then ?_
              refine K_seq ?_
              refine K_seq ?_
              refine K_region ?_
              refine KV (R_move rfl) rfl ?_
              refine KV (R_cmp rfl rfl rfl) rfl ?_
              refine K_nil ?_
              refine Q_then ?_
              refine K_if rfl (fun h53 => ?_) (fun h53 => ?_)
              ·
                have hne : twoErr a b ≠ 0 := by rw [htE]; exact h53
                obtain rfl := uAE hne
                obtain rfl := iAE hne
                refine K_seq ?_
                refine K_region ?_
                refine KV (R_move rfl) rfl ?_
                refine KV (R_move rfl) rfl ?_
                refine KV (R_cmp rfl rfl rfl) rfl ?_
                refine KV (R_move rfl) rfl ?_
                refine K_split ?_ ?_
                ·
                  intro h57
                  refine K_gyes rfl rfl ?_
                  refine KV (R_move rfl) rfl ?_
                  refine K_gyes rfl rfl ?_
                  refine KV (R_move rfl) rfl ?_
                  refine K_gyes rfl rfl ?_
                  refine KV (R_cmp rfl rfl rfl) rfl ?_
                  refine KV (R_pickT rfl rfl) rfl ?_
                  refine KV (R_move rfl) rfl ?_
                  refine K_split ?_ ?_
                  ·
                    intro h62
                    refine K_gyes rfl rfl ?_
                    refine KV (R_fieldAddr 1 fd50_1 rfl) rfl ?_
                    refine K_gyes rfl rfl ?_
                    refine KV (R_loadO ty3 1 rfl rfl rfl rfl (fun _ => rfl) rfl) rfl ?_
                    refine K_gyes rfl rfl ?_
                    refine KV (R_cmp rfl rfl rfl) rfl ?_
                    refine KV (R_pickT rfl rfl) rfl ?_
                    refine KV (R_move rfl) rfl ?_
                    refine K_split ?_ ?_
                    ·
                      intro h67
                      refine K_gyes rfl rfl ?_
                      refine KV (R_fieldAddr 1 fd50_1 rfl) rfl ?_
                      refine K_gyes rfl rfl ?_
                      refine KV (R_loadO ty3 0 rfl rfl rfl rfl (fun _ => rfl) rfl) rfl ?_
                      refine K_gyes rfl rfl ?_
                      refine KV (R_cmp rfl rfl rfl) rfl ?_
                      refine KV (R_pickT rfl rfl) rfl ?_
                      refine KV (R_assign rfl) rfl ?_
                      refine K_nil ?_
                      refine Q_then ?_
                      refine K_ret ?_
                      refine Q_then_ret ?_
                      refine results_gen (rs := [.tmp 4]) (vs := [_]) rfl ⟨rfl, trivial⟩ ?_
                      first | rfl | exact congrArg Value.bool (decide_eq_true rfl)
                    ·
                      intro h67
                      exact absurd rfl h67
                  ·
                    intro h62
                    exact absurd htE h62
                ·
                  intro h57
                  exact absurd htE h57
              ·
                exact absurd (by first | exact h39 | exact h44 | decide) h53
            ·
              have hrr : a.ranks = b.ranks := cmpL_eq.1 (Decidable.not_not.1 h51)
              have hz : twoErr a b = 0 := by unfold twoErr; rw [if_neg (not_not_intro h39), if_neg (not_not_intro h44), if_pos hrr]
              have hoA := AuOk.of h39
              have hoB := AuOk.of h44
              refine K_skip ?_
              refine Q_then ?_
              refine K_seq ?_
              refine K_seq ?_
              refine K_region ?_
              refine KV (R_move rfl) rfl ?_
              refine KV (R_cmp rfl rfl rfl) rfl ?_
              refine K_nil ?_
              refine Q_then ?_
              refine K_if rfl (fun h53 => ?_) (fun h53 => ?_)
              ·
                exact absurd h44 h53
              ·
                obtain rfl := uA0 hz
                obtain rfl := iA0 hz
                refine K_skip ?_
                refine Q_then ?_
                refine K_seq ?_
                refine K_regionD (fin := false) (R := [0, 1, 2, 3, 4, 5, 6, 7, 8, 9, 10, 11, 12, 13, 14, 15, 16, 17, 18, 19, 20]) (by kernel_rfl) mixed (.cons_cons _ (.cons_cons _ (.cons_cons _ (.cons_cons _ (List.nil_sublist _))))) ?_
                refine D_val rfl rfl rfl (R_move rfl) ?_
                refine D_val rfl rfl rfl (R_cmp rfl rfl rfl) ?_
                refine D_val rfl rfl rfl (R_move rfl) ?_
                refine D_split ?_ ?_
                ·
                  intro h74
                  refine D_val rfl rfl rfl (R_move rfl) ?_
                  refine D_val rfl rfl rfl (R_cmp rfl rfl rfl) ?_
                  refine D_val rfl rfl rfl (R_pickT rfl rfl) ?_
                  refine D_val rfl rfl rfl (R_move rfl) ?_
                  refine D_split ?_ ?_
                  ·
                    intro h78
                    refine D_val rfl rfl rfl (R_loadW ty50 1 rfl rfl rfl rfl) ?_
                    refine D_val rfl rfl rfl (R_loadW ty42 3 rfl rfl rfl rfl) ?_
                    refine D_val rfl rfl rfl (R_loadW ty42 2 rfl rfl rfl rfl) ?_
                    refine D_call rfl rfl c2033 rfl ⟨⟨0, rfl⟩, ⟨1, rfl⟩, ⟨2, rfl⟩, ⟨3, rfl⟩, trivial⟩ (either_spec a b _ _ _ _ _ _ V12 (ha.mono hvD) (hb.mono hvD) hoA hoB hs hu (by omega) (by omega)) ?_
                    rintro _ V13 hv13 ⟨e1, e2, e3, rfl, hE⟩
                    have hUok := uniA_ok hoA hoB hrr hs hu
                    rw [sortedM_norm hUok] at hE
                    refine D_call rfl rfl c2021 rfl ⟨⟨0, rfl⟩, ⟨1, rfl⟩, ⟨2, rfl⟩, ⟨3, rfl⟩, trivial⟩ (alike_spec (normA (uniA a b)) (normA (uniA a b)) _ _ _ _ _ _ V13 (hB9.mono (hv10.trans (hv11.trans (hv12.trans hv13)))) hE (normA_ok hUok) (normA_ok hUok) (norm_idem _) (sameM_self _)) ?_
                    rintro _ V14 hv14 rfl
                    refine D_val rfl rfl rfl (R_pickT rfl rfl) ?_
                    refine D_val rfl rfl rfl (R_move rfl) ?_
                    refine D_splitB ?_ ?_
                    ·
                      intro h85
                      refine D_val rfl rfl rfl (R_loadW ty50 0 rfl rfl rfl rfl) ?_
                      refine D_val rfl rfl rfl (R_loadW ty42 3 rfl rfl rfl rfl) ?_
                      refine D_val rfl rfl rfl (R_loadW ty42 2 rfl rfl rfl rfl) ?_
                      refine D_call rfl rfl c2034 rfl ⟨⟨0, rfl⟩, ⟨1, rfl⟩, ⟨2, rfl⟩, ⟨3, rfl⟩, trivial⟩ (both_spec a b _ _ _ _ _ _ V14 (ha.mono (hvD.trans (hv13.trans hv14))) (hb.mono (hvD.trans (hv13.trans hv14))) hoA hoB hrr (hs2 hz) hu2 (by omega) (by omega)) ?_
                      rintro _ V15 hv15 ⟨f1, f2, f3, rfl, hF⟩
                      have hIok := intA_ok hoA hoB hrr (hs2 hz) hu2
                      have hBok := botA_ok hoA hoB hrr (hs2 hz) hu2
                      rw [sortedM_norm hBok, bot_norm hoA hoB] at hF
                      refine D_call rfl rfl c2021 rfl ⟨⟨0, rfl⟩, ⟨1, rfl⟩, ⟨2, rfl⟩, ⟨3, rfl⟩, trivial⟩ (alike_spec (normA (intA a b)) (normA (intA a b)) _ _ _ _ _ _ V15 (hC.mono (hv10.trans (hv11.trans (hv12.trans (hv13.trans (hv14.trans hv15)))))) hF (normA_ok hIok) (normA_ok hIok) (norm_idem _) (sameM_self _)) ?_
                      rintro _ V16 hv16 rfl
                      refine D_val rfl rfl rfl (R_pickT rfl rfl) ?_
                      refine D_val rfl rfl rfl (R_assign rfl) ?_
                      refine D_done ?_
                      refine Q_then ?_
                      refine K_ret ?_
                      refine results_gen (rs := [.tmp 4]) (vs := [_]) rfl ⟨rfl, trivial⟩ ?_
                      first | rfl | exact congrArg Value.bool (decide_eq_true rfl)
                    ·
                      intro h85
                      exact absurd h85 (by decide)
                  ·
                    intro h78
                    exact absurd hz h78
                ·
                  intro h74
                  exact absurd hz h74
          ·
            intro h44
            have htE : twoErr a b = auErr b := by unfold twoErr; rw [if_neg (not_not_intro h39), if_pos h44]
            refine K_gno rfl rfl rfl rfl ?_
            refine K_gno rfl rfl rfl rfl ?_
            refine K_gno rfl rfl rfl rfl ?_
            refine K_gno rfl rfl rfl rfl ?_
            refine K_gno rfl rfl rfl rfl ?_
            refine K_gno rfl rfl rfl rfl ?_
            refine KV (R_pickF rfl rfl) rfl ?_
            refine K_nil ?_
            refine Q_then ?_
            refine K_ifF rfl ?_
            refine K_skip ?_
            refine Q_then ?_
            refine K_seq ?_
            refine K_seq ?_
            refine K_region ?_
            refine KV (R_move rfl) rfl ?_
            refine KV (R_cmp rfl rfl rfl) rfl ?_
            refine K_nil ?_
            refine Q_then ?_
            refine K_if rfl (fun h53 => ?_) (fun h53 => ?_)
            ·
              have hne : twoErr a b ≠ 0 := by rw [htE]; exact h53
              obtain rfl := uAE hne
              obtain rfl := iAE hne
              refine K_seq ?_
              refine K_region ?_
              refine KV (R_move rfl) rfl ?_
              refine KV (R_move rfl) rfl ?_
              refine KV (R_cmp rfl rfl rfl) rfl ?_
              refine KV (R_move rfl) rfl ?_
              refine K_split ?_ ?_
              ·
                intro h57
                refine K_gyes rfl rfl ?_
                refine KV (R_move rfl) rfl ?_
                refine K_gyes rfl rfl ?_
                refine KV (R_move rfl) rfl ?_
                refine K_gyes rfl rfl ?_
                refine KV (R_cmp rfl rfl rfl) rfl ?_
                refine KV (R_pickT rfl rfl) rfl ?_
                refine KV (R_move rfl) rfl ?_
                refine K_split ?_ ?_
                ·
                  intro h62
                  refine K_gyes rfl rfl ?_
                  refine KV (R_fieldAddr 1 fd50_1 rfl) rfl ?_
                  refine K_gyes rfl rfl ?_
                  refine KV (R_loadO ty3 1 rfl rfl rfl rfl (fun _ => rfl) rfl) rfl ?_
                  refine K_gyes rfl rfl ?_
                  refine KV (R_cmp rfl rfl rfl) rfl ?_
                  refine KV (R_pickT rfl rfl) rfl ?_
                  refine KV (R_move rfl) rfl ?_
                  refine K_split ?_ ?_
                  ·
                    intro h67
                    refine K_gyes rfl rfl ?_
                    refine KV (R_fieldAddr 1 fd50_1 rfl) rfl ?_
                    refine K_gyes rfl rfl ?_
                    refine KV (R_loadO ty3 0 rfl rfl rfl rfl (fun _ => rfl) rfl) rfl ?_
                    refine K_gyes rfl rfl ?_
                    refine KV (R_cmp rfl rfl rfl) rfl ?_
                    refine KV (R_pickT rfl rfl) rfl ?_
                    refine KV (R_assign rfl) rfl ?_
                    refine K_nil ?_
                    refine Q_then ?_
                    refine K_ret ?_
                    refine Q_then_ret ?_
                    refine results_gen (rs := [.tmp 4]) (vs := [_]) rfl ⟨rfl, trivial⟩ ?_
                    first | rfl | exact congrArg Value.bool (decide_eq_true rfl)
                  ·
                    intro h67
                    exact absurd rfl h67
                ·
                  intro h62
                  exact absurd htE h62
              ·
                intro h57
                exact absurd htE h57
            ·
              exact absurd (by first | exact h39 | exact h44 | decide) h53
        ·
          have htE : twoErr a b = auErr a := by unfold twoErr; rw [if_pos h39]
          refine K_skip ?_
          refine Q_then ?_
          refine K_seq ?_
          refine K_seq ?_
          refine K_region ?_
          refine KV (R_move rfl) rfl ?_
          refine KV (R_cmp rfl rfl rfl) rfl ?_
          refine KV (R_move rfl) rfl ?_
          refine K_split ?_ ?_
          ·
            intro h44
            exact absurd h44 h39
          ·
            intro h44
            refine K_gno rfl rfl rfl rfl ?_
            refine K_gno rfl rfl rfl rfl ?_
            refine K_gno rfl rfl rfl rfl ?_
            refine K_gno rfl rfl rfl rfl ?_
            refine K_gno rfl rfl rfl rfl ?_
            refine K_gno rfl rfl rfl rfl ?_
            refine KV (R_pickF rfl rfl) rfl ?_
            refine K_nil ?_
            refine Q_then ?_
            refine K_ifF rfl ?_
            refine K_skip ?_
            refine Q_then ?_
            refine K_seq ?_
            refine K_seq ?_
            refine K_region ?_
            refine KV (R_move rfl) rfl ?_
            refine KV (R_cmp rfl rfl rfl) rfl ?_
            refine K_nil ?_
            refine Q_then ?_
            refine K_if rfl (fun h53 => ?_) (fun h53 => ?_)
            ·
              have hne : twoErr a b ≠ 0 := by rw [htE]; exact h53
              obtain rfl := uAE hne
              obtain rfl := iAE hne
              refine K_seq ?_
              refine K_region ?_
              refine KV (R_move rfl) rfl ?_
              refine KV (R_move rfl) rfl ?_
              refine KV (R_cmp rfl rfl rfl) rfl ?_
              refine KV (R_move rfl) rfl ?_
              refine K_split ?_ ?_
              ·
                intro h57
                refine K_gyes rfl rfl ?_
                refine KV (R_move rfl) rfl ?_
                refine K_gyes rfl rfl ?_
                refine KV (R_move rfl) rfl ?_
                refine K_gyes rfl rfl ?_
                refine KV (R_cmp rfl rfl rfl) rfl ?_
                refine KV (R_pickT rfl rfl) rfl ?_
                refine KV (R_move rfl) rfl ?_
                refine K_split ?_ ?_
                ·
                  intro h62
                  refine K_gyes rfl rfl ?_
                  refine KV (R_fieldAddr 1 fd50_1 rfl) rfl ?_
                  refine K_gyes rfl rfl ?_
                  refine KV (R_loadO ty3 1 rfl rfl rfl rfl (fun _ => rfl) rfl) rfl ?_
                  refine K_gyes rfl rfl ?_
                  refine KV (R_cmp rfl rfl rfl) rfl ?_
                  refine KV (R_pickT rfl rfl) rfl ?_
                  refine KV (R_move rfl) rfl ?_
                  refine K_split ?_ ?_
                  ·
                    intro h67
                    refine K_gyes rfl rfl ?_
                    refine KV (R_fieldAddr 1 fd50_1 rfl) rfl ?_
                    refine K_gyes rfl rfl ?_
                    refine KV (R_loadO ty3 0 rfl rfl rfl rfl (fun _ => rfl) rfl) rfl ?_
                    refine K_gyes rfl rfl ?_
                    refine KV (R_cmp rfl rfl rfl) rfl ?_
                    refine KV (R_pickT rfl rfl) rfl ?_
                    refine KV (R_assign rfl) rfl ?_
                    refine K_nil ?_
                    refine Q_then ?_
                    refine K_ret ?_
                    refine Q_then_ret ?_
                    refine results_gen (rs := [.tmp 4]) (vs := [_]) rfl ⟨rfl, trivial⟩ ?_
                    first | rfl | exact congrArg Value.bool (decide_eq_true rfl)
                  ·
                    intro h67
                    exact absurd rfl h67
                ·
                  intro h62
                  exact absurd htE h62
              ·
                intro h57
                exact absurd htE h57
            ·
              exact absurd (by first | exact h39 | exact h44 | decide) h53
end Go.Proofs.X
