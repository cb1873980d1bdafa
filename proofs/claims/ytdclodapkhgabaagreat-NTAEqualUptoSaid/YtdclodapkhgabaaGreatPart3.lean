/-
  Part of the proof: rules for walks, contracts of the functions that the statements reach, plain laws. Own work. No statement of the seat is proved here.
-/
import Derived.Test.YtdclodapkhgabaaGreatPalPr
import Derived.Test.YtdclodapkhgabaaGreatPart2
import Derived.Test.YtdclodapkhgabaaGreatPalTw
import Derived.Test.YtdclodapkhgabaaGreatPalLa
import Derived.Test.YtdclodapkhgabaaGreatPalWe
namespace Go.Proofs.X
open Go Pal Go.Proofs
attribute [local irreducible] Pal.KO Pal.KC Pal.KQ Pal.KD

set_option maxHeartbeats 2000000 in
theorem inter_spec (a b : Au) (v1 v2 v3 w1 w2 w3 : Value) (H : View) (ha : RepAu H a v1 v2 v3) (hb : RepAu H b w1 w2 w3) (hs0 : twoErr a b = 0 → a.states * b.states ≤ 256) (hu : a.rules.length * b.rules.length ≤ 65536) (hf : a.final.length * b.final.length ≤ 1048576) : Sat Tryz.prog F2032 #[.agg #[v1, .int .i64 a.states, v2, v3], .agg #[w1, .int .i64 b.states, w2, w3]] H (fun r H' => ∃ v1 v2 v3, r = .tuple #[.agg #[v1, .int .i64 (errAu (twoErr a b) (normA (intA a b))).states, v2, v3], .int .i64 (twoErr a b)] ∧ RepAu H' (errAu (twoErr a b) (normA (intA a b))) v1 v2 v3) := by
  obtain ⟨ar, arc, rfl⟩ := ha.r.shape
  obtain ⟨af, afc, rfl⟩ := ha.f.shape
  obtain ⟨au, auc, rfl⟩ := ha.ushape
  obtain ⟨br, brc, rfl⟩ := hb.r.shape
  obtain ⟨bf, bfc, rfl⟩ := hb.f.shape
  obtain ⟨bu, buc, rfl⟩ := hb.ushape
  have hafl := ha.fl
  have hbfl := hb.fl
  have hrl := ha.rl
  have hu2 : (sortO a.rules).length * (sortO b.rules).length ≤ 65536 := Nat.le_trans (Nat.mul_le_mul (sortO_len _) (sortO_len _)) hu
  refine enterO (n := 161) (args := [.agg #[.slice ar a.ranks.length arc, .int .i64 a.states, .slice au a.rules.length auc, .slice af a.final.length afc], .agg #[.slice br b.ranks.length brc, .int .i64 b.states, .slice bu b.rules.length buc, .slice bf b.final.length bfc]]) Tryz.func43 rfl rfl rfl fun w0 => ?_
  refine K_seq ?_
  refine K_region ?_
  refine KA (A_box rfl) rfl fun b2 => ?_
  refine KA (A_box rfl) rfl fun b3 => ?_
  refine KA (A_alloc z50) rfl fun b4 => ?_
  refine KV (R_assign rfl) rfl ?_
  refine K_nil ?_
  refine Q_then ?_
  refine K_seq ?_
  refine K_seq ?_
  refine K_region ?_
  refine KV (R_loadW ty50 2 rfl rfl rfl rfl) rfl ?_
  refine KV (R_loadW ty50 1 rfl rfl rfl rfl) rfl ?_
  refine K_call c2061 rfl rfl (two_spec a b _ _ _ _ _ _ H ha hb) ?_
  rintro _ V1 hv1 rfl
  refine KV (R_assign rfl) rfl ?_
  refine K_nil ?_
  refine Q_then ?_
  refine K_seq ?_
  refine K_region ?_
  refine KV (R_move rfl) rfl ?_
  refine KV (R_cmp rfl rfl rfl) rfl ?_
  refine K_nil ?_
  refine Q_then ?_
  refine K_if rfl (fun hte => ?_) (fun hte => ?_)
  ·
    refine K_seq ?_
    refine K_region ?_
    refine KV (R_build z50 pl50 rfl rfl) rfl ?_
    refine KV (R_move rfl) rfl ?_
    refine K_storeW ty50 0 rfl rfl rfl rfl rfl rfl rfl ?_
    refine KV (R_assign rfl) rfl ?_
    refine K_nil ?_
    refine Q_then ?_
    refine K_ret ?_
    refine Q_then_ret ?_
    refine results_gen (rs := [.cell 4 37, .tmp 5]) (vs := [_, _]) rfl ⟨⟨_, _, _, _, _, _, 0, rfl, rfl, ty50, (fun e => by cases e), rfl, rfl⟩, ⟨rfl, trivial⟩⟩ ?_
    rw [errAu_no hte]
    exact ⟨nilS, nilS, nilS, rfl, RepAu.nil _⟩
  ·
    have hte0 := Decidable.not_not.1 hte
    have hs := hs0 hte0
    obtain ⟨hea, heb, hrr⟩ := twoErr_zero hte0
    have hoA := AuOk.of hea
    have hoB := AuOk.of heb
    have hsA := hoA.st
    have hsB := hoB.st
    have hsn0 : 0 ≤ a.states * b.states := Int.mul_nonneg hsA.1 hsB.1
    refine K_skip ?_
    refine Q_then ?_
    refine K_seq ?_
    refine K_regionD (fin := true) (R := [0, 1, 3, 4, 5, 6, 7, 2, 8, 9, 10]) (by kernel_rfl) mixed (.cons_cons _ (.cons_cons _ (.cons_cons _ (List.nil_sublist _)))) ?_
    refine D_val rfl rfl rfl (R_fieldAddr 0 fd50_0 rfl) ?_
    refine D_val rfl rfl rfl (R_loadO ty47 2 rfl rfl rfl rfl (fun _ => rfl) rfl) ?_
    refine D_val rfl rfl rfl (R_fieldAddr 1 fd50_1 rfl) ?_
    refine D_val rfl rfl rfl (R_loadO ty3 2 rfl rfl rfl rfl (fun _ => rfl) rfl) ?_
    refine D_val rfl rfl rfl (R_fieldAddr 1 fd50_1 rfl) ?_
    refine D_val rfl rfl rfl (R_loadO ty3 1 rfl rfl rfl rfl (fun _ => rfl) rfl) ?_
    refine D_val rfl rfl rfl (R_mul rfl rfl (by omega)) ?_
    refine D_call rfl rfl c45 rfl ⟨⟨0, rfl⟩, ⟨1, rfl⟩, ⟨2, rfl⟩, trivial⟩ (clone47_spec a.ranks _ V1 (ha.mono hv1).r hrl) ?_
    rintro _ V2 hv2 hck
    obtain ⟨cka, ckc, rfl⟩ := hck.shape
    refine D_val rfl rfl rfl (R_build z50 pl50 rfl rfl) ?_
    refine D_alloc rfl rfl rfl (A_alloc z50) fun b7 => ?_
    refine D_lastStoreW ty50 0 rfl rfl rfl rfl rfl rfl rfl rfl rfl ?_
    refine Q_then ?_
    refine K_seq ?_
    refine K_regionD (fin := false) (R := [0, 2, 1, 3, 4, 5]) (by kernel_rfl) mixed (.cons_cons _ (.cons_cons _ (.cons_cons _ (.cons_cons _ (List.nil_sublist _))))) ?_
    refine D_val rfl rfl rfl (R_loadW ty50 3 rfl rfl rfl rfl) ?_
    refine D_val rfl rfl rfl (R_loadW ty50 2 rfl rfl rfl rfl) ?_
    refine D_call rfl rfl c2053 rfl ⟨⟨0, rfl⟩, ⟨1, rfl⟩, ⟨2, rfl⟩, ⟨3, rfl⟩, trivial⟩ (book_spec a _ _ _ V2 (ha.mono (hv1.trans hv2))) ?_
    rintro _ V3 hv3 ⟨bA, kvA, rfl, hbA, hnA, hrA⟩
    refine D_call rfl rfl c2053 rfl ⟨⟨0, rfl⟩, ⟨1, rfl⟩, ⟨2, rfl⟩, ⟨3, rfl⟩, trivial⟩ (book_spec b _ _ _ V3 (hb.mono (hv1.trans (hv2.trans hv3)))) ?_
    rintro _ V4 hv4 ⟨bB, kvB, rfl, hbB, hnB, hrB⟩
    have hbA4 := hv4 _ _ hbA
    have hrA4 : ∀ q, RulesAt V4 ((lookI kvA q).getD nilS) (symR (sortO a.rules) q) := fun q => (hrA q).mono hv4
    refine D_val rfl rfl rfl (R_assign rfl) ?_
    refine D_val rfl rfl rfl (R_assign rfl) ?_
    refine D_done ?_
    refine Q_then ?_
    refine K_seq ?_
    refine K_region ?_
    refine KV (R_assign rfl) rfl ?_
    refine K_nil ?_
    refine Q_then ?_
    refine K_seq ?_
    refine K_seq ?_
    refine K_region ?_
    refine KV (R_move rfl) rfl ?_
    refine K_range mt2031 rfl (.inl hbA4) rfl fun b46 => ?_
    refine K_nil ?_
    refine Q_then ?_
    refine K_block ?_
    refine K_loopD (G := List Nat) [10, 11, 12, 47, 48, 49, 50, 51, 52, 53, 54, 55, 56, 57, 58, 59, 60] (fun g => [(10, .int .i64 ((((prodK b.states (sortO a.rules) (sortO b.rules) (keysAt kvA g)).length) : Nat) : Int))]) (fun hl g => (hl.set 0 (blk b46 (itO bA kvA.length g)))) (fun g => V4) (fun g => (g.Nodup) ∧ (∀ i ∈ g, i < kvA.length)) (fun g => kvA.length - g.length) [] ⟨List.nodup_nil, fun i hi => (by cases hi)⟩ ⟨rfl, trivial⟩ (by simp only [args0, Nat.reduceAdd, del, memN, beqN, Nat.reduceBEq, cond_true, cond_false]; rfl) rfl rfl ?_
    rintro seen ⟨hsn, hslt⟩
    try dsimp only at hsn
    try dsimp only at hslt
    dsimp only [List.set, List.cons_append, List.nil_append]
    refine K_seq ?_
    refine K_region ?_
    refine K_next 0 rfl rfl (.inl hbA4) rfl (fun hall => ?_) (fun i q u hki hni => ?_)
    ·
      refine KV (R_extract rfl rfl) rfl ?_
      refine K_nil ?_
      refine Q_then ?_
      refine K_seq ?_
      refine K_ifF rfl ?_
      refine K_exit ?_
      refine Q_then_exit ?_
      refine Q_then_exit ?_
      refine Q_block_exit ?_
      refine Q_then ?_
      refine K_seq ?_
      refine K_seq ?_
      have htot := Nat.le_trans (prodK_len b.states (sortO a.rules) (sortO b.rules) (keysAt_nodup hnA hsn hslt)) hu2
      refine K_region ?_
      refine KV (R_fieldAddr 1 fd50_1 rfl) rfl ?_
      refine KV (R_loadO ty3 1 rfl rfl rfl rfl (fun _ => rfl) rfl) rfl ?_
      refine KV (R_cmp rfl rfl rfl) rfl ?_
      refine KV (R_move rfl) rfl ?_
      refine K_split ?_ ?_
      ·
        intro h64
        exact absurd h64 (by omega)
      ·
        intro h64
        refine K_gyes rfl rfl ?_
        refine KV (R_move rfl) rfl ?_
        refine K_gyes rfl rfl ?_
        refine KV (R_cmp rfl rfl rfl) rfl ?_
        refine KV (R_pickF rfl rfl) rfl ?_
        refine K_nil ?_
        refine Q_then ?_
        refine K_if rfl (fun h67 => ?_) (fun h67 => ?_)
        ·
          exact absurd h67 (by omega)
        ·
          refine K_skip ?_
          refine Q_then ?_
          refine K_seq ?_
          refine K_seq ?_
          refine K_region ?_
          refine KV (R_move rfl) rfl ?_
          refine K_range mt2031 rfl (.inl hbA4) rfl fun b70 => ?_
          refine K_nil ?_
          refine Q_then ?_
          refine K_block ?_
          refine K_nilrow T85 3 ?_
          refine K_loopD (G := List Nat × View × Value × List Value) [13, 14, 16, 18, 19, 20, 71, 72, 73, 74, 75, 76, 77, 78, 79, 80, 81, 82, 83, 84, 85, 86, 87, 88, 89, 90, 91, 92, 93, 94, 95, 96, 97, 98, 99, 100, 101, 102, 103, 104, 105, 106, 107, 108, 109, 110, 111, 112, 113, 114, 115, 116, 117, 118, 119, 120, 121, 122, 123, 124, 125, 126, 127, 128, 129, 130, 131] (fun g => []) (fun hl g => (((hl.set 1 (blk b70 (itO bA kvA.length g.1))).set 0 (row g.2.2.1 T85 3 (prodK b.states (sortO a.rules) (sortO b.rules) (keysAt kvA g.1)).length g.2.2.2)).set 3 (blk b7 (.cells #[.slice cka a.ranks.length ckc, .int .i64 (a.states * b.states), g.2.2.1, nilS] T50 (0, 0))))) (fun g => g.2.1) (fun g => (g.1.Nodup) ∧ (∀ i ∈ g.1, i < kvA.length) ∧ (VLe V4 g.2.1) ∧ (RepL (RepR g.2.1) 3 (prodK b.states (sortO a.rules) (sortO b.rules) (keysAt kvA g.1)) g.2.2.2) ∧ (∃ ad cp, g.2.2.1 = .slice ad (prodK b.states (sortO a.rules) (sortO b.rules) (keysAt kvA g.1)).length cp)) (fun g => kvA.length - g.1.length) ([], V4, nilS, []) ⟨List.nodup_nil, fun i hi => (by cases hi), VLe.refl _, .nil, _, _, rfl⟩ trivial (by simp only [args0, Nat.reduceAdd, del, memN, beqN, Nat.reduceBEq, cond_true, cond_false]; rfl) rfl rfl ?_
          rintro ⟨seen2, V, w, cells⟩ ⟨hsn2, hslt2, hV, hC, hw⟩
          dsimp only at hsn2 hslt2 hV hC hw
          dsimp only [List.set, List.cons_append, List.nil_append]
          refine K_seq ?_
          refine K_region ?_
          refine K_next 1 rfl rfl (.inl (hV _ _ hbA4)) rfl (fun hall => ?_) (fun i q u hki hni => ?_)
          ·
            refine KV (R_extract rfl rfl) rfl ?_
            refine K_nil ?_
            refine Q_then ?_
            refine K_seq ?_
            refine K_ifF rfl ?_
            refine K_exit ?_
            refine Q_then_exit ?_
            refine Q_then_exit ?_
            refine Q_block_exit ?_
            refine Q_then ?_
            refine K_seq ?_
            refine K_seq ?_
            obtain ⟨wa, wcp, rfl⟩ := hw
            refine K_nilrow T3 1 ?_
            refine K_region ?_
            refine KV (R_fieldAddr 3 fd50_3 rfl) rfl ?_
            refine KV (R_loadO ty25 7 rfl rfl rfl rfl (fun _ => rfl) rfl) rfl ?_
            refine KV (R_len sl25 rfl) rfl ?_
            refine KV (R_move rfl) rfl ?_
            refine K_nil ?_
            refine Q_then ?_
            refine K_block ?_
            refine K_loopD (G := Nat × Value) [22, 24, 135, 136, 137, 138, 139, 140, 141, 142, 143, 144, 145, 146, 147, 148, 149, 150, 151, 152, 153, 154, 155, 156, 157, 158] (fun g => [(135, .int .i64 (g.1 : Int))]) (fun hl g => ((hl.set 0 (row g.2 T3 1 (finP b.states (a.final.take g.1) b.final).length (ints (finP b.states (a.final.take g.1) b.final)))).set 4 (blk b7 (.cells #[.slice cka a.ranks.length ckc, .int .i64 (a.states * b.states), .slice wa (prodK b.states (sortO a.rules) (sortO b.rules) (keysAt kvA seen2)).length wcp, g.2] T50 (0, 0))))) (fun g => V) (fun g => (g.1 ≤ a.final.length) ∧ (∃ ad cp, g.2 = .slice ad (finP b.states (a.final.take g.1) b.final).length cp)) (fun g => a.final.length - g.1) (0, nilS) ⟨Nat.zero_le _, _, _, rfl⟩ ⟨rfl, trivial⟩ (by simp only [args0, Nat.reduceAdd, del, memN, beqN, Nat.reduceBEq, cond_true, cond_false]; rfl) rfl rfl ?_
            rintro ⟨s, w2⟩ ⟨hs0, hw2⟩
            dsimp only at hs0 hw2
            dsimp only [List.set, List.cons_append, List.nil_append]
            refine K_seq ?_
            refine K_region ?_
            refine KV (R_cmp rfl rfl rfl) rfl ?_
            refine K_nil ?_
            refine Q_then ?_
            refine K_seq ?_
            refine K_if rfl (fun h136 => ?_) (fun h136 => ?_)
            ·
              have hs' : s < a.final.length := by omega
              obtain ⟨qb, qo, hqe, hqa⟩ := (ha.mono (hv1.trans (hv2.trans (hv3.trans (hv4.trans hV))))).f.get hs'
              cases hqe
              have hfa := hoA.fi _ (List.getElem_mem hs')
              refine K_skip ?_
              refine Q_then ?_
              refine K_seq ?_
              refine K_block ?_
              refine K_seq ?_
              refine K_region ?_
              refine KV (R_indexN sl25 ty3 rfl rfl (by omega)) rfl ?_
              refine KV (R_loadH ty3 rfl (hqa) rfl (fun _ => rfl) rfl) rfl ?_
              refine KV (R_assign rfl) rfl ?_
              refine K_nil ?_
              refine Q_then ?_
              refine K_seq ?_
              refine K_region ?_
              refine KV (R_fieldAddr 3 fd50_3 rfl) rfl ?_
              refine KV (R_loadO ty25 6 rfl rfl rfl rfl (fun _ => rfl) rfl) rfl ?_
              refine KV (R_len sl25 rfl) rfl ?_
              refine KV (R_move rfl) rfl ?_
              refine K_nil ?_
              refine Q_then ?_
              refine K_block ?_
              have hE0 : finP b.states (a.final.take s) b.final ++ finX b.states a.final[s] b.final 0 = finP b.states (a.final.take s) b.final := by simp [finX]
              refine K_loopD (G := Nat × Value) [24, 142, 143, 144, 145, 146, 147, 148, 149, 150, 151, 152, 153, 154, 155, 156, 157] (fun g => [(142, .int .i64 (g.1 : Int))]) (fun hl g => ((hl.set 0 (row g.2 T3 1 (finP b.states (a.final.take s) b.final ++ finX b.states a.final[s] b.final g.1).length (ints (finP b.states (a.final.take s) b.final ++ finX b.states a.final[s] b.final g.1)))).set 4 (blk b7 (.cells #[.slice cka a.ranks.length ckc, .int .i64 (a.states * b.states), .slice wa (prodK b.states (sortO a.rules) (sortO b.rules) (keysAt kvA seen2)).length wcp, g.2] T50 (0, 0))))) (fun g => V) (fun g => (g.1 ≤ b.final.length) ∧ (∃ ad cp, g.2 = .slice ad (finP b.states (a.final.take s) b.final ++ finX b.states a.final[s] b.final g.1).length cp)) (fun g => b.final.length - g.1) (0, w2) ⟨Nat.zero_le _, by rw [hE0]; exact hw2⟩ ⟨rfl, trivial⟩ (by simp only [args0, Nat.reduceAdd, del, memN, beqN, Nat.reduceBEq, cond_true, cond_false]; rfl) (by dsimp only [List.set]; rw [hE0]; try rfl) rfl ?_
              rintro ⟨t, w3⟩ ⟨ht0, hw3⟩
              dsimp only at ht0 hw3
              dsimp only [List.set, List.cons_append, List.nil_append]
              obtain ⟨w3a, w3c, rfl⟩ := hw3
              have hb3 : (finP b.states (a.final.take s) b.final ++ finX b.states a.final[s] b.final t).length = s * b.final.length + t := by
                rw [List.length_append, finP_len, finX_len _ _ ht0, List.length_take, Nat.min_eq_left (by omega)]
              refine K_seq ?_
              refine K_region ?_
              refine KV (R_cmp rfl rfl rfl) rfl ?_
              refine K_nil ?_
              refine Q_then ?_
              refine K_seq ?_
              refine K_if rfl (fun h143 => ?_) (fun h143 => ?_)
              ·
                have ht' : t < b.final.length := by omega
                obtain ⟨qb2, qo2, hqe2, hqb⟩ := (hb.mono (hv1.trans (hv2.trans (hv3.trans (hv4.trans hV))))).f.get ht'
                cases hqe2
                have hfb := hoB.fi _ (List.getElem_mem ht')
                have hmf := mul_bound hfa hfb
                have hmn3 : 0 ≤ a.final[s] * b.states := Int.mul_nonneg hfa.1 hsB.1
                have hpf2 := part_fit hs' ht'
                refine K_skip ?_
                refine Q_then ?_
                refine K_seq ?_
                refine K_block ?_
                refine K_seq ?_
                refine K_region ?_
                refine KV (R_indexN sl25 ty3 rfl rfl (by omega)) rfl ?_
                refine KV (R_loadH ty3 rfl (hqb) rfl (fun _ => rfl) rfl) rfl ?_
                refine KV (R_assign rfl) rfl ?_
                refine K_nil ?_
                refine Q_then ?_
                refine K_region ?_
                refine KV (R_fieldAddr 3 fd50_3 rfl) rfl ?_
                refine KV (R_loadO ty25 4 rfl rfl rfl rfl (fun _ => rfl) rfl) rfl ?_
                refine KV (R_move rfl) rfl ?_
                refine KV (R_fieldAddr 1 fd50_1 rfl) rfl ?_
                refine KV (R_loadO ty3 6 rfl rfl rfl rfl (fun _ => rfl) rfl) rfl ?_
                refine KV (R_mul rfl rfl (by omega)) rfl ?_
                refine KV (R_move rfl) rfl ?_
                refine KV (R_add rfl rfl (by omega)) rfl ?_
                refine KA (A_buildSlice (vs := [.int .i64 (a.final[s] * b.states + b.final[t])]) sl25 ty3 z3 rfl rfl (by simp [Value.cells]) (by simp) rfl (by decide)) rfl fun b154 => ?_
                refine K_append1 0 ap25 rfl rfl rfl rfl rfl rfl ⟨by omega, by omega⟩ rfl fun a155 k155 hn155 => ?_
                refine KV (R_fieldAddr 3 fd50_3 rfl) rfl ?_
                refine K_store ty25 4 rfl rfl rfl rfl rfl rfl ?_
                refine K_nil ?_
                refine Q_block ?_
                refine Q_then ?_
                refine K_region ?_
                refine KV (R_add rfl rfl (by omega)) rfl ?_
                refine KV (R_move rfl) rfl ?_
                refine K_nil ?_
                have hE2 : finP b.states (a.final.take s) b.final ++ finX b.states a.final[s] b.final (t + 1) = (finP b.states (a.final.take s) b.final ++ finX b.states a.final[s] b.final t) ++ [a.final[s] * b.states + b.final[t]] := by rw [finX_succ _ _ ht', ← List.append_assoc]
                refine Q_nextD (t + 1, .slice a155 ((finP b.states (a.final.take s) b.final ++ finX b.states a.final[s] b.final t).length + 1) k155) ⟨ht', _, _, by rw [hE2, List.length_append (bs := [_])]; rfl⟩ (by (try dsimp only); omega) ⟨rfl, trivial⟩ rfl (by dsimp only [List.set]; rw [hE2, List.length_append (bs := [_]), ints_append _ [_]]; try rfl) rfl
              ·
                have ht' : t = b.final.length := by omega
                refine K_exit ?_
                refine Q_then_exit ?_
                refine Q_then_exit ?_
                refine Q_block_exit ?_
                refine Q_block ?_
                refine Q_then ?_
                refine K_region ?_
                refine KV (R_add rfl rfl (by omega)) rfl ?_
                refine KV (R_move rfl) rfl ?_
                refine K_nil ?_
                have hE : finP b.states (a.final.take s) b.final ++ finX b.states a.final[s] b.final t = finP b.states (a.final.take (s + 1)) b.final := by rw [ht', finP_snoc b.states hs']
                rw [hE]
                refine Q_nextD (s + 1, .slice w3a (finP b.states (a.final.take (s + 1)) b.final).length w3c) ⟨hs', _, _, rfl⟩ (by (try dsimp only); omega) ⟨rfl, trivial⟩ rfl rfl rfl
            ·
              have hs' : s = a.final.length := by omega
              subst hs'
              rw [List.take_length]
              rw [List.take_length] at hw2
              refine K_exit ?_
              refine Q_then_exit ?_
              refine Q_then_exit ?_
              refine Q_block_exit ?_
              refine Q_then ?_
              refine K_seq ?_
              obtain ⟨w2a, w2c, rfl⟩ := hw2
              refine KC_front 1 rfl ?_
              try dsimp only [List.eraseIdx]
              refine KC_pubrow rfl fun V7 hv7 hrowU => ?_
              skip
              refine KC_front 0 rfl ?_
              try dsimp only [List.eraseIdx]
              refine KC_pubrow rfl fun V8 hv8 hfinU => ?_
              skip
              have hpl := Nat.le_trans (prodK_len b.states (sortO a.rules) (sortO b.rules) (keysAt_nodup hnA hsn2 hslt2)) hu2
              have hio := intA_ok hoA hoB hrr hs hu
              have hI : RepAu V8 ⟨a.ranks, a.states * b.states, prodK b.states (sortO a.rules) (sortO b.rules) (keysAt kvA seen2), finP b.states a.final b.final⟩ (.slice cka a.ranks.length ckc) (.slice wa (prodK b.states (sortO a.rules) (sortO b.rules) (keysAt kvA seen2)).length wcp) (.slice w2a (finP b.states a.final b.final).length w2c) := by
                refine ⟨hck.mono (hv3.trans (hv4.trans (hV.trans (hv7.trans hv8)))), ⟨cells, hrowU.sl.mono hv8, hC.imp fun x cs h => h.mono (hv7.trans hv8)⟩, ⟨hfinU.sl, fun x hx => ?_⟩, by show i64ok (a.states * b.states); simp only [i64ok]; omega, hrl, by show (prodK b.states (sortO a.rules) (sortO b.rules) (keysAt kvA seen2)).length ≤ _; omega, by show (finP b.states a.final b.final).length ≤ _; rw [finP_len]; omega⟩
                have := hio.fi x hx
                have h2 : (intA a b).states = a.states * b.states := rfl
                simp only [i64ok]; omega
              refine K_region ?_
              refine KV (R_loadW ty50 2 rfl rfl rfl rfl) rfl ?_
              refine K_call c2045 rfl rfl (sortedS_spec ⟨a.ranks, a.states * b.states, prodK b.states (sortO a.rules) (sortO b.rules) (keysAt kvA seen2), finP b.states a.final b.final⟩ _ _ _ V8 hI) ?_
              rintro _ VS hvS ⟨s1, s2, s3, rfl, hS⟩
              rw [int_norm a b (book_keys hrA4 hsn2 hslt2 hall)] at hS
              obtain ⟨sr, src, rfl⟩ := hS.r.shape
              obtain ⟨sf, sfc, rfl⟩ := hS.f.shape
              obtain ⟨su, suc, rfl⟩ := hS.ushape
              refine K_storeW ty50 3 rfl rfl rfl rfl rfl rfl rfl ?_
              refine KV (R_assign rfl) rfl ?_
              refine K_nil ?_
              refine Q_then ?_
              refine K_ret ?_
              refine results_gen (rs := [.cell 4 37, .tmp 5]) (vs := [_, _]) rfl ⟨⟨_, _, _, _, _, _, 3, rfl, rfl, ty50, (fun e => by cases e), rfl, rfl⟩, ⟨rfl, trivial⟩⟩ ?_
              rw [hte0, errAu_ok rfl]
              exact ⟨_, _, _, rfl, hS⟩
          ·
            obtain ⟨hnd2, hlt2, hle2⟩ := seen_snoc hsn2 hslt2 hni (List.getElem?_eq_some_iff.1 hki).1
            have hU := book_at hnA hrA4 hki
            obtain ⟨ua, uc, rfl⟩ := hU.shape
            have hXl : (symR (sortO a.rules) q).length ≤ 65536 := Nat.le_trans (List.length_filter_le _ _) (Nat.le_trans (sortO_len _) hoA.ul)
            have hYl : (symR (sortO b.rules) q).length ≤ 65536 := Nat.le_trans (List.length_filter_le _ _) (Nat.le_trans (sortO_len _) hoB.ul)
            have hSB := hrB q
            generalize hsv : (lookI kvB q).getD nilS = sv at hSB
            obtain ⟨sa, sc, rfl⟩ := hSB.shape
            have hkn := keysAt_nodup hnA hnd2 hlt2
            rw [keysAt_snoc hki] at hkn
            have hfit := prodK_fit (n := b.states) (B := sortO b.rules) hkn hu2
            refine KV (R_extract rfl rfl) rfl ?_
            refine K_nil ?_
            refine Q_then ?_
            refine K_seq ?_
            refine K_ifT rfl ?_
            refine K_skip ?_
            refine Q_then ?_
            refine K_block ?_
            refine K_seq ?_
            refine K_region ?_
            refine KV (R_entry 1 rfl rfl (.inl (hV _ _ hbA4)) hki) rfl ?_
            refine KV (R_extract rfl rfl) rfl ?_
            refine KV (R_extract rfl rfl) rfl ?_
            refine KV (R_assign rfl) rfl ?_
            refine KV (R_assign rfl) rfl ?_
            refine K_nil ?_
            refine Q_then ?_
            refine K_seq ?_
            refine K_region ?_
            refine KV (R_move rfl) rfl ?_
            refine KV (R_len sl48 rfl) rfl ?_
            refine KV (R_move rfl) rfl ?_
            refine K_nil ?_
            refine Q_then ?_
            refine K_block ?_
            have hE0 : prodK b.states (sortO a.rules) (sortO b.rules) (keysAt kvA seen2) ++ prodU b.states (symR (sortO a.rules) q) (symR (sortO b.rules) q) 0 = prodK b.states (sortO a.rules) (sortO b.rules) (keysAt kvA seen2) := by simp [prodU]
            refine K_loopD (G := Nat × View × Value × List Value) [16, 18, 19, 20, 78, 79, 80, 81, 82, 83, 84, 85, 86, 87, 88, 89, 90, 91, 92, 93, 94, 95, 96, 97, 98, 99, 100, 101, 102, 103, 104, 105, 106, 107, 108, 109, 110, 111, 112, 113, 114, 115, 116, 117, 118, 119, 120, 121, 122, 123, 124, 125, 126, 127, 128, 129, 130, 131] (fun g => [(78, .int .i64 (g.1 : Int))]) (fun hl g => ((hl.set 0 (row g.2.2.1 T85 3 (prodK b.states (sortO a.rules) (sortO b.rules) (keysAt kvA seen2) ++ prodU b.states (symR (sortO a.rules) q) (symR (sortO b.rules) q) g.1).length g.2.2.2)).set 3 (blk b7 (.cells #[.slice cka a.ranks.length ckc, .int .i64 (a.states * b.states), g.2.2.1, nilS] T50 (0, 0))))) (fun g => g.2.1) (fun g => (g.1 ≤ (symR (sortO a.rules) q).length) ∧ (VLe V g.2.1) ∧ (RepL (RepR g.2.1) 3 (prodK b.states (sortO a.rules) (sortO b.rules) (keysAt kvA seen2) ++ prodU b.states (symR (sortO a.rules) q) (symR (sortO b.rules) q) g.1) g.2.2.2) ∧ (∃ ad cp, g.2.2.1 = .slice ad (prodK b.states (sortO a.rules) (sortO b.rules) (keysAt kvA seen2) ++ prodU b.states (symR (sortO a.rules) q) (symR (sortO b.rules) q) g.1).length cp)) (fun g => (symR (sortO a.rules) q).length - g.1) (0, V, w, cells) ⟨Nat.zero_le _, VLe.refl _, by rw [hE0]; exact hC, by rw [hE0]; exact hw⟩ ⟨rfl, trivial⟩ (by simp only [args0, Nat.reduceAdd, del, memN, beqN, Nat.reduceBEq, cond_true, cond_false]; rfl) (by dsimp only [List.set]; rw [hE0]; try rfl) rfl ?_
            rintro ⟨i2, V2, w2, cells2⟩ ⟨hi20, hV2, hC2, hw2⟩
            dsimp only at hi20 hV2 hC2 hw2
            dsimp only [List.set, List.cons_append, List.nil_append]
            obtain ⟨w2a, w2c, rfl⟩ := hw2
            refine K_seq ?_
            refine K_region ?_
            refine KV (R_cmp rfl rfl rfl) rfl ?_
            refine K_nil ?_
            refine Q_then ?_
            refine K_seq ?_
            refine K_if rfl (fun h79 => ?_) (fun h79 => ?_)
            ·
              have hi2' : i2 < (symR (sortO a.rules) q).length := by omega
              obtain ⟨xb, xo, xva, xe, xc2, xrv⟩ := ((hU.mono hV).mono hV2).elem hi2'
              cases xe
              obtain ⟨xx, xy, hxe⟩ := xrv.1.shape
              dsimp only at hxe
              subst hxe
              obtain ⟨hxm, hxq⟩ := symR_mem.1 (List.getElem_mem hi2')
              obtain ⟨k1, k2, k3, k4, k5, k6⟩ := hoA.ru _ (sortO_mem.1 hxm)
              have hxs : SI V2 (.slice xx (symR (sortO a.rules) q)[i2].args.length xy) (symR (sortO a.rules) q)[i2].args := xrv.1
              have hxl2 := hoA.args2 _ (sortO_mem.1 hxm)
              refine K_skip ?_
              refine Q_then ?_
              refine K_seq ?_
              refine K_block ?_
              refine K_seq ?_
              refine K_region ?_
              refine KV (R_indexN sl48 ty85 rfl rfl (by omega)) rfl ?_
              refine KV (R_loadH ty85 rfl (xc2) rfl (fun e => by cases e) rfl) rfl ?_
              refine KA (A_alloc z85) rfl fun b16 => ?_
              refine K_storeW ty85 0 rfl rfl rfl rfl rfl rfl rfl ?_
              refine K_nil ?_
              refine Q_then ?_
              refine K_seq ?_
              refine K_region ?_
              refine KV (R_move rfl) rfl ?_
              refine KV (R_move rfl) rfl ?_
              refine KV (R_lookV mt2031 (by kernel_rfl) z48 rfl rfl (.inl ((hV.trans hV2) _ _ hbB)) hsv) rfl ?_
              refine KV (R_len sl48 rfl) rfl ?_
              refine KV (R_move rfl) rfl ?_
              refine K_nil ?_
              refine Q_then ?_
              refine K_block ?_
              have hE1 : (prodK b.states (sortO a.rules) (sortO b.rules) (keysAt kvA seen2) ++ prodU b.states (symR (sortO a.rules) q) (symR (sortO b.rules) q) i2) ++ ((symR (sortO b.rules) q).take 0).map (prR b.states (symR (sortO a.rules) q)[i2]) = prodK b.states (sortO a.rules) (sortO b.rules) (keysAt kvA seen2) ++ prodU b.states (symR (sortO a.rules) q) (symR (sortO b.rules) q) i2 := by simp
              refine K_loopD (G := Nat × View × Value × List Value) [18, 19, 20, 86, 87, 88, 89, 90, 91, 92, 93, 94, 95, 96, 97, 98, 99, 100, 101, 102, 103, 104, 105, 106, 107, 108, 109, 110, 111, 112, 113, 114, 115, 116, 117, 118, 119, 120, 121, 122, 123, 124, 125, 126, 127, 128, 129, 130] (fun g => [(86, .int .i64 (g.1 : Int))]) (fun hl g => ((hl.set 1 (row g.2.2.1 T85 3 ((prodK b.states (sortO a.rules) (sortO b.rules) (keysAt kvA seen2) ++ prodU b.states (symR (sortO a.rules) q) (symR (sortO b.rules) q) i2) ++ ((symR (sortO b.rules) q).take g.1).map (prR b.states (symR (sortO a.rules) q)[i2])).length g.2.2.2)).set 4 (blk b7 (.cells #[.slice cka a.ranks.length ckc, .int .i64 (a.states * b.states), g.2.2.1, nilS] T50 (0, 0))))) (fun g => g.2.1) (fun g => (g.1 ≤ (symR (sortO b.rules) q).length) ∧ (VLe V2 g.2.1) ∧ (RepL (RepR g.2.1) 3 ((prodK b.states (sortO a.rules) (sortO b.rules) (keysAt kvA seen2) ++ prodU b.states (symR (sortO a.rules) q) (symR (sortO b.rules) q) i2) ++ ((symR (sortO b.rules) q).take g.1).map (prR b.states (symR (sortO a.rules) q)[i2])) g.2.2.2) ∧ (∃ ad cp, g.2.2.1 = .slice ad ((prodK b.states (sortO a.rules) (sortO b.rules) (keysAt kvA seen2) ++ prodU b.states (symR (sortO a.rules) q) (symR (sortO b.rules) q) i2) ++ ((symR (sortO b.rules) q).take g.1).map (prR b.states (symR (sortO a.rules) q)[i2])).length cp)) (fun g => (symR (sortO b.rules) q).length - g.1) (0, V2, .slice w2a (prodK b.states (sortO a.rules) (sortO b.rules) (keysAt kvA seen2) ++ prodU b.states (symR (sortO a.rules) q) (symR (sortO b.rules) q) i2).length w2c, cells2) ⟨Nat.zero_le _, VLe.refl _, by rw [hE1]; exact hC2, _, _, by rw [hE1]⟩ ⟨rfl, trivial⟩ (by simp only [args0, Nat.reduceAdd, del, memN, beqN, Nat.reduceBEq, cond_true, cond_false]; rfl) (by dsimp only [List.set]; rw [hE1]; try rfl) rfl ?_
              rintro ⟨j2, V3, w3, cells3⟩ ⟨hj20, hV3, hC3, hw3⟩
              dsimp only at hj20 hV3 hC3 hw3
              dsimp only [List.set, List.cons_append, List.nil_append]
              obtain ⟨w3a, w3c, rfl⟩ := hw3
              have hpl3 : ((prodK b.states (sortO a.rules) (sortO b.rules) (keysAt kvA seen2) ++ prodU b.states (symR (sortO a.rules) q) (symR (sortO b.rules) q) i2) ++ ((symR (sortO b.rules) q).take j2).map (prR b.states (symR (sortO a.rules) q)[i2])).length = (prodK b.states (sortO a.rules) (sortO b.rules) (keysAt kvA seen2)).length + i2 * (symR (sortO b.rules) q).length + j2 := by
                rw [List.length_append, List.length_append, prodU_len b.states _ _ i2 (by omega), List.length_map, List.length_take, Nat.min_eq_left hj20]
              refine K_seq ?_
              refine K_region ?_
              refine KV (R_cmp rfl rfl rfl) rfl ?_
              refine K_nil ?_
              refine Q_then ?_
              refine K_seq ?_
              refine K_if rfl (fun h87 => ?_) (fun h87 => ?_)
              ·
                have hj2' : j2 < (symR (sortO b.rules) q).length := by omega
                obtain ⟨yb, yo, yva, ye, yc2, yrv⟩ := (hSB.mono (hV.trans (hV2.trans hV3))).elem hj2'
                cases ye
                obtain ⟨yx, yy, hye⟩ := yrv.1.shape
                dsimp only at hye
                subst hye
                obtain ⟨hym, hyq⟩ := symR_mem.1 (List.getElem_mem hj2')
                obtain ⟨l1, l2, l3, l4, l5, l6⟩ := hoB.ru _ (sortO_mem.1 hym)
                have hsr := sameRank hoA hoB hrr (sortO_mem.1 hxm) (sortO_mem.1 hym) (hyq.trans hxq.symm)
                have hmb := mul_bound ⟨k5, k6⟩ ⟨l5, l6⟩
                have hmn : 0 ≤ (symR (sortO a.rules) q)[i2].to * b.states := Int.mul_nonneg k5 hsB.1
                have hpf := part_fit hi2' hj2'
                have hys : SI V3 (.slice yx (symR (sortO b.rules) q)[j2].args.length yy) (symR (sortO b.rules) q)[j2].args := yrv.1
                refine K_skip ?_
                refine Q_then ?_
                refine K_seq ?_
                refine K_block ?_
                refine K_seq ?_
                refine K_region ?_
                refine KV (R_indexN sl48 ty85 rfl rfl (by omega)) rfl ?_
                refine KV (R_loadH ty85 rfl (yc2) rfl (fun e => by cases e) rfl) rfl ?_
                refine KA (A_alloc z85) rfl fun b18 => ?_
                refine K_storeW ty85 0 rfl rfl rfl rfl rfl rfl rfl ?_
                refine K_nil ?_
                refine Q_then ?_
                refine K_seq ?_
                refine K_region ?_
                refine KV (R_assign rfl) rfl ?_
                refine K_nil ?_
                refine Q_then ?_
                refine K_seq ?_
                refine K_seq ?_
                refine K_region ?_
                refine KV (R_fieldAddr 1 fd85_1 rfl) rfl ?_
                refine KV (R_loadO ty25 1 rfl rfl rfl rfl (fun _ => rfl) rfl) rfl ?_
                refine KV (R_len sl25 rfl) rfl ?_
                refine KV (R_move rfl) rfl ?_
                refine K_nil ?_
                refine Q_then ?_
                refine K_block ?_
                refine K_nilrow T3 1 ?_
                refine K_loopD (G := Nat × Value) [19, 20, 93, 94, 95, 96, 97, 98, 99, 100, 101, 102, 103, 104, 105, 106, 107, 108, 109, 110, 111, 112, 113] (fun g => [(93, .int .i64 (g.1 : Int)), (19, g.2)]) (fun hl g => (hl.set 0 (row g.2 T3 1 g.1 (ints (prArgs b.states ((symR (sortO a.rules) q)[i2].args.take g.1) ((symR (sortO b.rules) q)[j2].args.take g.1)))))) (fun g => V3) (fun g => (g.1 ≤ (symR (sortO a.rules) q)[i2].args.length) ∧ (∃ ad cp, g.2 = .slice ad g.1 cp)) (fun g => (symR (sortO a.rules) q)[i2].args.length - g.1) (0, nilS) ⟨Nat.zero_le _, _, _, rfl⟩ ⟨rfl, rfl, trivial⟩ (by simp only [args0, Nat.reduceAdd, del, memN, beqN, Nat.reduceBEq, cond_true, cond_false]; rfl) rfl rfl ?_
                rintro ⟨k, z⟩ ⟨hk, hz⟩
                dsimp only at hk hz
                dsimp only [List.set, List.cons_append, List.nil_append]
                obtain ⟨za, zc, rfl⟩ := hz
                refine K_seq ?_
                refine K_region ?_
                refine KV (R_cmp rfl rfl rfl) rfl ?_
                refine K_nil ?_
                refine Q_then ?_
                refine K_seq ?_
                refine K_if rfl (fun h94 => ?_) (fun h94 => ?_)
                ·
                  have hk' : k < (symR (sortO a.rules) q)[i2].args.length := by omega
                  have hk2 : k < (symR (sortO b.rules) q)[j2].args.length := by omega
                  obtain ⟨ub2, uo2, hue, hux⟩ := (hxs.mono hV3).get hk'
                  cases hue
                  obtain ⟨vb2, vo2, hve, hvx⟩ := hys.get hk2
                  cases hve
                  have q1 := k4 _ (List.getElem_mem hk')
                  have q2 := l4 _ (List.getElem_mem hk2)
                  have hmz := mul_bound q1 q2
                  have hmn2 : 0 ≤ (symR (sortO a.rules) q)[i2].args[k] * b.states := Int.mul_nonneg q1.1 hsB.1
                  refine K_skip ?_
                  refine Q_then ?_
                  refine K_seq ?_
                  refine K_block ?_
                  refine K_seq ?_
                  refine K_region ?_
                  refine KV (R_move rfl) rfl ?_
                  refine KV (R_assign rfl) rfl ?_
                  refine K_nil ?_
                  refine Q_then ?_
                  refine K_regionD (fin := false) (R := [0, 1, 2, 3, 4, 5, 6, 7, 8, 9, 10, 11, 12, 13, 14, 15, 16, 17]) (by kernel_rfl) mixed (.cons _ (.cons_cons _ (.cons_cons _ (.cons_cons _ (.cons_cons _ (.cons_cons _ (.cons_cons _ (.cons_cons _ (.cons_cons _ (.cons_cons _ (List.nil_sublist _))))))))))) ?_
                  refine D_val rfl rfl rfl (R_move rfl) ?_
                  refine D_val rfl rfl rfl (R_fieldAddr 1 fd85_1 rfl) ?_
                  refine D_val rfl rfl rfl (R_loadO ty25 1 rfl rfl rfl rfl (fun _ => rfl) rfl) ?_
                  refine D_val rfl rfl rfl (R_move rfl) ?_
                  refine D_val rfl rfl rfl (R_index sl25 ty3 rfl rfl ⟨by omega, by omega⟩) ?_
                  refine D_val rfl rfl rfl (R_loadH ty3 rfl (hux) rfl (fun _ => rfl) rfl) ?_
                  refine D_val rfl rfl rfl (R_fieldAddr 1 fd50_1 rfl) ?_
                  refine D_val rfl rfl rfl (R_loadO ty3 7 rfl rfl rfl rfl (fun _ => rfl) rfl) ?_
                  refine D_val rfl rfl rfl (R_mul rfl rfl (by omega)) ?_
                  refine D_val rfl rfl rfl (R_fieldAddr 1 fd85_1 rfl) ?_
                  refine D_val rfl rfl rfl (R_loadO ty25 0 rfl rfl rfl rfl (fun _ => rfl) rfl) ?_
                  refine D_val rfl rfl rfl (R_move rfl) ?_
                  refine D_val rfl rfl rfl (R_index sl25 ty3 rfl rfl ⟨by omega, by omega⟩) ?_
                  refine D_val rfl rfl rfl (R_loadH ty3 rfl (hvx) rfl (fun _ => rfl) rfl) ?_
                  refine D_val rfl rfl rfl (R_add rfl rfl (by omega)) ?_
                  refine D_alloc rfl rfl rfl (A_buildSlice (vs := [.int .i64 ((symR (sortO a.rules) q)[i2].args[k] * b.states + (symR (sortO b.rules) q)[j2].args[k])]) sl25 ty3 z3 rfl rfl (by simp [Value.cells]) (by simp) rfl (by decide)) fun b111 => ?_
                  refine D_append1 0 ap25 rfl rfl rfl rfl rfl rfl ⟨⟨0, rfl⟩, ⟨1, rfl⟩, ⟨2, rfl⟩, ⟨3, rfl⟩, ⟨4, rfl⟩, ⟨5, rfl⟩, ⟨6, rfl⟩, ⟨7, rfl⟩, ⟨8, rfl⟩, trivial⟩ rfl rfl ⟨by omega, by omega⟩ fun a112 k112 hn112 => ?_
                  refine D_val rfl rfl rfl (R_assign rfl) ?_
                  refine D_done ?_
                  refine Q_block ?_
                  refine Q_then ?_
                  refine K_region ?_
                  refine KV (R_add rfl rfl (by omega)) rfl ?_
                  refine KV (R_move rfl) rfl ?_
                  refine K_nil ?_
                  refine Q_nextD (k + 1, .slice a112 (k + 1) k112) ⟨hk', _, _, rfl⟩ (by (try dsimp only); omega) ⟨rfl, rfl, trivial⟩ rfl (by dsimp only [List.set]; rw [prArgs_snoc hk' hk2, ints_append _ [_]]; try rfl) rfl
                ·
                  have hk' : k = (symR (sortO a.rules) q)[i2].args.length := by omega
                  subst hk'
                  rw [List.take_length, hsr, List.take_length]
                  rw [← hsr]
                  refine K_exit ?_
                  refine Q_then_exit ?_
                  refine Q_then_exit ?_
                  refine Q_block_exit ?_
                  refine Q_then ?_
                  refine KC_front 0 rfl ?_
                  try dsimp only [List.eraseIdx]
                  refine KC_pubrow rfl fun U hU' hargs => ?_
                  skip
                  refine K_region ?_
                  refine KV (R_fieldAddr 2 fd50_2 rfl) rfl ?_
                  refine KV (R_loadO ty48 5 rfl rfl rfl rfl (fun _ => rfl) rfl) rfl ?_
                  refine KV (R_move rfl) rfl ?_
                  refine KV (R_move rfl) rfl ?_
                  refine KV (R_fieldAddr 2 fd85_2 rfl) rfl ?_
                  refine KV (R_loadO ty3 1 rfl rfl rfl rfl (fun _ => rfl) rfl) rfl ?_
                  refine KV (R_fieldAddr 1 fd50_1 rfl) rfl ?_
                  refine KV (R_loadO ty3 7 rfl rfl rfl rfl (fun _ => rfl) rfl) rfl ?_
                  refine KV (R_mul rfl rfl (by omega)) rfl ?_
                  refine KV (R_fieldAddr 2 fd85_2 rfl) rfl ?_
                  refine KV (R_loadO ty3 0 rfl rfl rfl rfl (fun _ => rfl) rfl) rfl ?_
                  refine KV (R_add rfl rfl (by omega)) rfl ?_
                  refine KV (R_build z85 pl85 rfl rfl) rfl ?_
                  refine KA (A_buildSlice (vs := [.agg #[.int .i64 q, .slice za (symR (sortO a.rules) q)[i2].args.length zc, .int .i64 ((symR (sortO a.rules) q)[i2].to * b.states + (symR (sortO b.rules) q)[j2].to)]]) sl48 ty85 z85 rfl rfl (by simp [Value.cells]) (by simp) rfl (by decide)) rfl fun b127 => ?_
                  refine K_append1 2 ap48 rfl rfl rfl rfl rfl rfl ⟨by omega, by omega⟩ rfl fun a128 k128 hn128 => ?_
                  refine KV (R_fieldAddr 2 fd50_2 rfl) rfl ?_
                  refine K_store ty48 5 rfl rfl rfl rfl rfl rfl ?_
                  refine K_nil ?_
                  refine Q_block ?_
                  refine Q_then ?_
                  refine K_region ?_
                  refine KV (R_add rfl rfl (by omega)) rfl ?_
                  refine KV (R_move rfl) rfl ?_
                  refine K_nil ?_
                  refine KQ_sel [2, 0, 1, 1, 1, 1, 1, 1] rfl ?_
                  have hE2 : (prodK b.states (sortO a.rules) (sortO b.rules) (keysAt kvA seen2) ++ prodU b.states (symR (sortO a.rules) q) (symR (sortO b.rules) q) i2) ++ ((symR (sortO b.rules) q).take (j2 + 1)).map (prR b.states (symR (sortO a.rules) q)[i2]) = ((prodK b.states (sortO a.rules) (sortO b.rules) (keysAt kvA seen2) ++ prodU b.states (symR (sortO a.rules) q) (symR (sortO b.rules) q) i2) ++ ((symR (sortO b.rules) q).take j2).map (prR b.states (symR (sortO a.rules) q)[i2])) ++ [prR b.states (symR (sortO a.rules) q)[i2] (symR (sortO b.rules) q)[j2]] := by rw [List.take_succ_eq_append_getElem hj2', List.map_append, ← List.append_assoc]; rfl
                  have hal : (prR b.states (symR (sortO a.rules) q)[i2] (symR (sortO b.rules) q)[j2]).args.length = (symR (sortO a.rules) q)[i2].args.length := prArgs_len (n := b.states) hsr
                  have hrep : RepR U (prR b.states (symR (sortO a.rules) q)[i2] (symR (sortO b.rules) q)[j2]) [.int .i64 q, .slice za (symR (sortO a.rules) q)[i2].args.length zc, .int .i64 ((symR (sortO a.rules) q)[i2].to * b.states + (symR (sortO b.rules) q)[j2].to)] := by
                    refine ⟨za, zc, by rw [hal]; show _ = [Value.int .i64 (symR (sortO a.rules) q)[i2].sym, _, _]; rw [hxq]; rfl, ⟨by rw [hal]; exact hargs.sl, fun x hx => ?_⟩, xrv.2.2.1, by show i64ok ((symR (sortO a.rules) q)[i2].to * b.states + (symR (sortO b.rules) q)[j2].to); simp only [i64ok]; omega, by rw [hal]; exact xrv.2.1⟩
                    obtain ⟨u, hu3, v, hv9, rfl⟩ := prArgs_mem hx
                    have h9 := mul_bound (k4 u hu3) (l4 v hv9)
                    simp only [i64ok]; omega
                  refine Q_nextD (j2 + 1, U, .slice a128 (((prodK b.states (sortO a.rules) (sortO b.rules) (keysAt kvA seen2) ++ prodU b.states (symR (sortO a.rules) q) (symR (sortO b.rules) q) i2) ++ ((symR (sortO b.rules) q).take j2).map (prR b.states (symR (sortO a.rules) q)[i2])).length + 1) k128, cells3 ++ [.int .i64 q, .slice za (symR (sortO a.rules) q)[i2].args.length zc, .int .i64 ((symR (sortO a.rules) q)[i2].to * b.states + (symR (sortO b.rules) q)[j2].to)]) ⟨hj2', hV3.trans hU', by rw [hE2]; exact (hC3.imp fun x cs h => h.mono hU').snoc hrep rfl, _, _, by rw [hE2, List.length_append (bs := [_])]; rfl⟩ (by (try dsimp only); omega) ⟨rfl, trivial⟩ rfl (by dsimp only [List.set]; rw [hE2, List.length_append (bs := [_])]; try rfl) rfl
              ·
                have hj2' : j2 = (symR (sortO b.rules) q).length := by omega
                refine K_exit ?_
                refine Q_then_exit ?_
                refine Q_then_exit ?_
                refine Q_block_exit ?_
                refine Q_block ?_
                refine Q_then ?_
                refine K_region ?_
                refine KV (R_add rfl rfl (by omega)) rfl ?_
                refine KV (R_move rfl) rfl ?_
                refine K_nil ?_
                refine KQ_sel [1, 1, 1, 1, 1, 1, 1] rfl ?_
                have hE : (prodK b.states (sortO a.rules) (sortO b.rules) (keysAt kvA seen2) ++ prodU b.states (symR (sortO a.rules) q) (symR (sortO b.rules) q) i2) ++ ((symR (sortO b.rules) q).take j2).map (prR b.states (symR (sortO a.rules) q)[i2]) = prodK b.states (sortO a.rules) (sortO b.rules) (keysAt kvA seen2) ++ prodU b.states (symR (sortO a.rules) q) (symR (sortO b.rules) q) (i2 + 1) := by rw [hj2', List.take_length, prodU_succ b.states hi2', List.append_assoc]
                rw [hE] at hC3
                rw [hE]
                refine Q_nextD (i2 + 1, V3, .slice w3a (prodK b.states (sortO a.rules) (sortO b.rules) (keysAt kvA seen2) ++ prodU b.states (symR (sortO a.rules) q) (symR (sortO b.rules) q) (i2 + 1)).length w3c, cells3) ⟨hi2', hV2.trans hV3, hC3, _, _, rfl⟩ (by (try dsimp only); omega) ⟨rfl, trivial⟩ rfl rfl rfl
            ·
              have hi2' : i2 = (symR (sortO a.rules) q).length := by omega
              refine K_exit ?_
              refine Q_then_exit ?_
              refine Q_then_exit ?_
              refine Q_block_exit ?_
              refine Q_block ?_
              have hE : prodK b.states (sortO a.rules) (sortO b.rules) (keysAt kvA seen2) ++ prodU b.states (symR (sortO a.rules) q) (symR (sortO b.rules) q) i2 = prodK b.states (sortO a.rules) (sortO b.rules) (keysAt kvA (seen2 ++ [i])) := by rw [hi2', prodU_all, keysAt_snoc hki, prodK_snoc]
              rw [hE] at hC2
              rw [hE]
              refine Q_nextD (seen2 ++ [i], V2, .slice w2a (prodK b.states (sortO a.rules) (sortO b.rules) (keysAt kvA (seen2 ++ [i]))).length w2c, cells2) ⟨hnd2, hlt2, hV.trans hV2, hC2, _, _, rfl⟩ (by (try dsimp only); rw [List.length_append]; simp only [List.length_cons, List.length_nil]; omega) trivial rfl rfl rfl
    ·
      obtain ⟨hnd2, hlt2, hle2⟩ := seen_snoc hsn hslt hni (List.getElem?_eq_some_iff.1 hki).1
      have hU := book_at hnA hrA4 hki
      obtain ⟨ua, uc, rfl⟩ := hU.shape
      have hXl : (symR (sortO a.rules) q).length ≤ 65536 := Nat.le_trans (List.length_filter_le _ _) (Nat.le_trans (sortO_len _) hoA.ul)
      have hYl : (symR (sortO b.rules) q).length ≤ 65536 := Nat.le_trans (List.length_filter_le _ _) (Nat.le_trans (sortO_len _) hoB.ul)
      have hSB := hrB q
      generalize hsv : (lookI kvB q).getD nilS = sv at hSB
      obtain ⟨sa, sc, rfl⟩ := hSB.shape
      have hkn := keysAt_nodup hnA hnd2 hlt2
      rw [keysAt_snoc hki] at hkn
      have hfit := prodK_fit (n := b.states) (B := sortO b.rules) hkn hu2
      refine KV (R_extract rfl rfl) rfl ?_
      refine K_nil ?_
      refine Q_then ?_
      refine K_seq ?_
      refine K_ifT rfl ?_
      refine K_skip ?_
      refine Q_then ?_
      refine K_block ?_
      refine K_seq ?_
      refine K_region ?_
      refine KV (R_entry 0 rfl rfl (.inl hbA4) hki) rfl ?_
      refine KV (R_extract rfl rfl) rfl ?_
      refine KV (R_extract rfl rfl) rfl ?_
      refine KV (R_assign rfl) rfl ?_
      refine KV (R_assign rfl) rfl ?_
      refine K_nil ?_
      refine Q_then ?_
      refine K_region ?_
      refine KV (R_move rfl) rfl ?_
      refine KV (R_move rfl) rfl ?_
      refine KV (R_len sl48 rfl) rfl ?_
      refine KV (R_move rfl) rfl ?_
      refine KV (R_move rfl) rfl ?_
      refine KV (R_lookV mt2031 (by kernel_rfl) z48 rfl rfl (.inl hbB) hsv) rfl ?_
      refine KV (R_len sl48 rfl) rfl ?_
      refine KV (R_mul rfl rfl (by omega)) rfl ?_
      refine KV (R_add rfl rfl (by omega)) rfl ?_
      refine KV (R_assign rfl) rfl ?_
      refine K_nil ?_
      refine Q_block ?_
      refine Q_nextD (seen ++ [i]) ⟨hnd2, hlt2⟩ (by (try dsimp only); rw [List.length_append]; simp only [List.length_cons, List.length_nil]; omega) ⟨congrArg (fun z => some (Value.int .i64 z)) (by rw [keysAt_snoc hki, prodK_snoc, List.length_append, prodQ_len]; omega), trivial⟩ rfl rfl rfl
end Go.Proofs.X

namespace Go.Proofs.X
open Go Pal Go.Proofs
attribute [local irreducible] Pal.KO Pal.KC Pal.KQ Pal.KD
theorem c2031 : callable Tryz.prog F2031 = true := by kernel_rfl
theorem c2032 : callable Tryz.prog F2032 = true := by kernel_rfl
end Go.Proofs.X

namespace Go.Proofs.X
open Go Pal Go.Proofs
attribute [local irreducible] Pal.KO Pal.KC Pal.KQ Pal.KD
theorem ty4 : Ty Tryz.prog T4 false 1 := .of (by kernel_rfl)
theorem ty52 : Ty Tryz.prog T52 false 1 := .of (by kernel_rfl)
theorem ty2048 : Ty Tryz.prog T2048 false 1 := .of (by kernel_rfl)
theorem sl52 : slcOk Tryz.prog T52 T4 := by unfold slcOk; kernel_rfl
theorem c2054 : callable Tryz.prog F2054 = true := by kernel_rfl
theorem c2055 : callable Tryz.prog F2055 = true := by kernel_rfl
theorem whole1_spec (m : List Bool) (b1 bc : Nat) (q : Int) (H : View) (hml : m.length ≤ 65536) (hA : At H b1 0 [slc m.length bc]) (hc : At H bc 0 (mkL m).toList) (hq : 0 ≤ q ∧ q < m.length) : Sat Tryz.prog F2055 ([] ++ [Value.int .i64 q] ++ [ptr b1]).toArray H (fun v _ => v = .bool (!onL m q)) := by
  have hcm := hc.mark (q := q) (by omega)
  refine enterO (n := 9) (args := [.int .i64 q, ptr b1]) Tryz.func82 rfl rfl rfl fun w0 => ?_
  refine K_seq ?_
  refine K_region ?_
  refine KV (R_assign rfl) rfl ?_
  refine K_nil ?_
  refine Q_then ?_
  refine K_seq ?_
  refine K_region ?_
  refine KV (R_loadH ty52 rfl (hA) rfl (fun _ => rfl) rfl) rfl ?_
  refine KV (R_move rfl) rfl ?_
  refine KV (R_index sl52 ty4 rfl rfl ⟨by omega, by omega⟩) rfl ?_
  refine KV (R_loadH ty4 rfl (hcm) rfl (fun _ => rfl) rfl) rfl ?_
  refine KV (R_not rfl) rfl ?_
  refine KV (R_assign rfl) rfl ?_
  refine K_nil ?_
  refine Q_then ?_
  refine K_ret ?_
  refine results_gen (rs := [.tmp 3]) (vs := [_]) rfl ⟨rfl, trivial⟩ ?_
  rfl

theorem whole_spec (m : List Bool) (b1 bc : Nat) (r : Rl) (va : Value) (H : View) (hml : m.length ≤ 65536) (hA : At H b1 0 [slc m.length bc]) (hc : At H bc 0 (mkL m).toList) (hrv : RVok H (r, va)) (hra : ∀ q ∈ r.args, 0 ≤ q ∧ q < (m.length : Int)) : Sat Tryz.prog F2054 ([] ++ [Value.agg (cellRV (r, va)).toArray] ++ [ptr b1]).toArray H (fun v _ => v = .bool (r.args.all (onL m))) := by
  obtain ⟨xa, xcp, hxe⟩ := hrv.1.shape
  dsimp only at hxe
  subst hxe
  have hxl := hrv.2.1
  dsimp only at hxl
  have hrs : SI H (.slice xa r.args.length xcp) r.args := hrv.1
  refine enterO (n := 9) (args := [.agg #[.int .i64 r.sym, .slice xa r.args.length xcp, .int .i64 r.to], ptr b1]) Tryz.func81 rfl rfl rfl fun w0 => ?_
  refine K_seq ?_
  refine K_region ?_
  refine KA (A_box rfl) rfl fun b2 => ?_
  refine KV (R_assign rfl) rfl ?_
  refine K_nil ?_
  refine Q_then ?_
  refine K_seq ?_
  refine K_region ?_
  refine KV (R_fieldAddr 1 fd85_1 rfl) rfl ?_
  refine KV (R_loadO ty25 0 rfl rfl rfl rfl (fun _ => rfl) rfl) rfl ?_
  refine KV (R_makeFunc rfl rfl) rfl ?_
  refine K_call c86 rfl rfl (sicon_spec F2055 [ptr b1] (fun q => !onL m q) r.args _ H hrv.1 hxl c2055 (fun x V hx hV => whole1_spec m b1 bc x V hml (hA.mono hV) (hc.mono hV) (hra x hx))) ?_
  rintro _ V1 hv1 rfl
  refine KV (R_not rfl) rfl ?_
  refine KV (R_assign rfl) rfl ?_
  refine K_nil ?_
  refine Q_then ?_
  refine K_ret ?_
  refine results_gen (rs := [.tmp 3]) (vs := [_]) rfl ⟨rfl, trivial⟩ ?_
  refine congrArg Value.bool ?_
  rw [List.not_any_eq_all_not]
  simp

theorem come_spec (m : List Bool) (b5 b7 bc : Nat) (r : Rl) (va : Value) (H : View) (hml : m.length ≤ 65536) (hA5 : At H b5 0 [slc m.length bc]) (hA7 : At H b7 0 [.func (.func F2054) #[] #[ptr b5]]) (hrv : RVok H (r, va)) (hra : ∀ q ∈ r.args, 0 ≤ q ∧ q < (m.length : Int)) (hrt : 0 ≤ r.to ∧ r.to < (m.length : Int)) : SatO Tryz.prog F2057 ([] ++ [Value.agg (cellRV (r, va)).toArray] ++ [ptr b5, ptr b7]).toArray H [blk bc (.cells (mkL m) T4 (0, 0))] (fun v _ p => v = .bool (decide (comeS m r ≠ m)) ∧ p = [blk bc (.cells (mkL (comeS m r)) T4 (0, 0))]) := by
  obtain ⟨xa, xcp, hxe⟩ := hrv.1.shape
  dsimp only at hxe
  subst hxe
  have hxl := hrv.2.1
  dsimp only at hxl
  have hrs : SI H (.slice xa r.args.length xcp) r.args := hrv.1
  have hcell : cellRV (r, Value.slice xa r.args.length xcp) = [.int .i64 r.sym, .slice xa r.args.length xcp, .int .i64 r.to] := rfl
  refine enterO (n := 20) (args := [.agg #[.int .i64 r.sym, .slice xa r.args.length xcp, .int .i64 r.to], ptr b5, ptr b7]) Tryz.func84 rfl rfl rfl fun w0 => ?_
  refine K_seq ?_
  refine K_region ?_
  refine KA (A_box rfl) rfl fun b3 => ?_
  refine KV (R_assign rfl) rfl ?_
  refine K_nil ?_
  refine Q_then ?_
  refine K_seq ?_
  refine K_seq ?_
  refine K_region ?_
  refine KV (R_loadH ty52 rfl (hA5) rfl (fun _ => rfl) rfl) rfl ?_
  refine KV (R_fieldAddr 2 fd85_2 rfl) rfl ?_
  refine KV (R_loadO ty3 0 rfl rfl rfl rfl (fun _ => rfl) rfl) rfl ?_
  refine KV (R_index sl52 ty4 rfl rfl ⟨by omega, by omega⟩) rfl ?_
  refine KV (R_loadC ty4 1 rfl rfl (mkL_get (q := r.to) (by omega) (by omega))) rfl ?_
  refine KV (R_move rfl) rfl ?_
  refine K_splitB ?_ ?_
  ·
    intro h10
    refine K_gno rfl rfl rfl rfl ?_
    refine K_gno rfl rfl rfl rfl ?_
    refine K_gno rfl rfl rfl rfl ?_
    refine K_gno rfl rfl rfl rfl ?_
    refine KV (R_pickT rfl rfl) rfl ?_
    refine K_nil ?_
    refine Q_then ?_
    refine K_ifT rfl ?_
    refine K_seq ?_
    refine K_region ?_
    refine KV (R_assign rfl) rfl ?_
    refine K_nil ?_
    refine Q_then ?_
    refine K_ret ?_
    refine Q_then_ret ?_
    refine results_sel [1] rfl (rs := [.tmp 4]) (vs := [_]) rfl ⟨rfl, trivial⟩ ?_
    rw [come_old (by omega) h10]
    exact ⟨by simp [tupV], rfl⟩
  ·
    intro h10
    refine K_gyes rfl rfl ?_
    refine KV (R_loadH ty2048 rfl (hA7) rfl (fun _ => rfl) rfl) rfl ?_
    refine K_gyes rfl rfl ?_
    refine KV (R_loadW ty85 0 rfl rfl rfl rfl) rfl ?_
    refine K_gyes rfl rfl ?_
    refine KO_sel [1, 0] rfl ?_
    refine K_callO (first := []) [_] _ (List.Perm.refl _) c2054 rfl rfl rfl (Sat.lend (blk bc (.cells (mkL m) T4 (0, 0))) fun H2 hle hh => whole_spec m b5 bc r _ H2 hml (hA5.mono hle) (At.of hh) (hrv.mono hle) hra) ?_
    rintro _ V1 q13 hv1 ⟨rfl, rfl, rfl⟩
    dsimp only [List.cons_append, List.nil_append]
    refine K_gyes rfl rfl ?_
    refine KV (R_not rfl) rfl ?_
    refine KV (R_pickF rfl rfl) rfl ?_
    refine K_nil ?_
    refine Q_then ?_
    refine K_ifB rfl (fun h15 => ?_) (fun h15 => ?_)
    ·
      have hall : r.args.all (onL m) = false := by simpa using h15
      refine K_seq ?_
      refine K_region ?_
      refine KV (R_assign rfl) rfl ?_
      refine K_nil ?_
      refine Q_then ?_
      refine K_ret ?_
      refine Q_then_ret ?_
      refine results_sel [0] rfl (rs := [.tmp 4]) (vs := [_]) rfl ⟨rfl, trivial⟩ ?_
      rw [come_not hall]
      exact ⟨by simp [tupV], rfl⟩
    ·
      have hall : r.args.all (onL m) = true := by simpa using h15
      obtain ⟨hs1, hs2⟩ := come_new (by omega) h10 hall
      refine K_skip ?_
      refine Q_then ?_
      refine K_seq ?_
      refine K_region ?_
      refine KV (R_loadH ty52 rfl (hA5) rfl (fun _ => rfl) rfl) rfl ?_
      refine KV (R_fieldAddr 2 fd85_2 rfl) rfl ?_
      refine KV (R_loadO ty3 1 rfl rfl rfl rfl (fun _ => rfl) rfl) rfl ?_
      refine KV (R_index sl52 ty4 rfl rfl ⟨by omega, by omega⟩) rfl ?_
      refine K_storeE ty4 0 rfl rfl rfl rfl (by rw [mkL_size]; show _ + 1 ≤ _; omega) rfl (mkL_put (q := r.to) (by omega) (by omega)) ?_
      refine K_nil ?_
      refine Q_then ?_
      refine K_seq ?_
      refine K_region ?_
      refine KV (R_assign rfl) rfl ?_
      refine K_nil ?_
      refine Q_then ?_
      refine K_ret ?_
      refine results_sel [0] rfl (rs := [.tmp 4]) (vs := [_]) rfl ⟨rfl, trivial⟩ ?_
      rw [hs2, hs1]
      exact ⟨rfl, rfl⟩
end Go.Proofs.X

namespace Go.Proofs.X
open Go Pal Go.Proofs
attribute [local irreducible] Pal.KO Pal.KC Pal.KQ Pal.KD

theorem lead_spec (c m : List Bool) (b5 b6 b7 bc bl : Nat) (r : Rl) (va : Value) (H : View) (hml : m.length ≤ 65536) (hcl : c.length = m.length) (hA5 : At H b5 0 [slc c.length bc]) (hc : At H bc 0 (mkL c).toList) (hA6 : At H b6 0 [slc m.length bl]) (hA7 : At H b7 0 [.func (.func F2054) #[] #[ptr b5]]) (hrv : RVok H (r, va)) (hra : ∀ q ∈ r.args, 0 ≤ q ∧ q < (m.length : Int)) (hrt : 0 ≤ r.to ∧ r.to < (m.length : Int)) : SatO Tryz.prog F2058 ([] ++ [Value.agg (cellRV (r, va)).toArray] ++ [ptr b6, ptr b7]).toArray H [blk bl (.cells (mkL m) T4 (0, 0))] (fun v _ p => v = .bool (decide (leadS c m r ≠ m)) ∧ p = [blk bl (.cells (mkL (leadS c m r)) T4 (0, 0))]) := by
  obtain ⟨xa, xcp, hxe⟩ := hrv.1.shape
  dsimp only at hxe
  subst hxe
  have hxl := hrv.2.1
  dsimp only at hxl
  have hrs : SI H (.slice xa r.args.length xcp) r.args := hrv.1
  have hra2 : ∀ q ∈ r.args, 0 ≤ q ∧ q < (c.length : Int) := fun q hq => by have := hra q hq; omega
  refine enterO (n := 38) (args := [.agg #[.int .i64 r.sym, .slice xa r.args.length xcp, .int .i64 r.to], ptr b6, ptr b7]) Tryz.func85 rfl rfl rfl fun w0 => ?_
  refine K_seq ?_
  refine K_region ?_
  refine KA (A_box rfl) rfl fun b3 => ?_
  refine KV (R_assign rfl) rfl ?_
  refine K_nil ?_
  refine Q_then ?_
  refine K_seq ?_
  refine K_region ?_
  refine KV (R_assign rfl) rfl ?_
  refine K_nil ?_
  refine Q_then ?_
  refine K_seq ?_
  refine K_seq ?_
  refine K_region ?_
  refine KV (R_loadH ty52 rfl (hA6) rfl (fun _ => rfl) rfl) rfl ?_
  refine KV (R_fieldAddr 2 fd85_2 rfl) rfl ?_
  refine KV (R_loadO ty3 0 rfl rfl rfl rfl (fun _ => rfl) rfl) rfl ?_
  refine KV (R_index sl52 ty4 rfl rfl ⟨by omega, by omega⟩) rfl ?_
  refine KV (R_loadC ty4 1 rfl rfl (mkL_get (q := r.to) (by omega) (by omega))) rfl ?_
  refine KV (R_move rfl) rfl ?_
  refine K_splitB ?_ ?_
  ·
    intro h13
    refine K_gyes rfl rfl ?_
    refine KV (R_loadH ty2048 rfl (hA7) rfl (fun _ => rfl) rfl) rfl ?_
    refine K_gyes rfl rfl ?_
    refine KV (R_loadW ty85 0 rfl rfl rfl rfl) rfl ?_
    refine K_gyes rfl rfl ?_
    refine K_callO (first := []) [] _ (List.Perm.refl _) c2054 rfl rfl rfl (whole_spec c b5 bc r _ H (by omega) hA5 hc hrv hra2).nil ?_
    rintro _ V1 q16 hv1 ⟨rfl, rfl⟩
    dsimp only [List.nil_append]
    refine KV (R_pickT rfl rfl) rfl ?_
    refine K_nil ?_
    refine Q_then ?_
    refine K_ifB rfl (fun h17 => ?_) (fun h17 => ?_)
    ·
      refine K_seq ?_
      refine K_region ?_
      refine KV (R_fieldAddr 1 fd85_1 rfl) rfl ?_
      refine KV (R_loadO ty25 0 rfl rfl rfl rfl (fun _ => rfl) rfl) rfl ?_
      refine KV (R_len sl25 rfl) rfl ?_
      refine KV (R_move rfl) rfl ?_
      refine K_nil ?_
      refine Q_then ?_
      refine K_block ?_
      refine K_loopD (G := Nat) [5, 7, 21, 22, 23, 24, 25, 26, 27, 28, 29, 30, 31, 32, 33, 34, 35, 36] (fun g => [(21, .int .i64 (g : Int)), (5, .bool (decide (setsL m (r.args.take g) ≠ m)))]) (fun hl g => (hl.set 1 (blk bl (.cells (mkL (setsL m (r.args.take g))) T4 (0, 0))))) (fun g => V1) (fun g => (g ≤ r.args.length)) (fun g => r.args.length - g) (0 : Nat) (Nat.zero_le _) ⟨rfl, (congrArg (fun z => some (Value.bool z)) (by simp [setsL])), trivial⟩ (by simp only [args0, Nat.reduceAdd, del, memN, beqN, Nat.reduceBEq, cond_true, cond_false]; rfl) rfl rfl ?_
      rintro k hk
      try dsimp only at hk
      dsimp only [List.set, List.cons_append, List.nil_append]
      have hkl := setsL_len m (r.args.take k)
      have hV := hv1
      refine K_seq ?_
      refine K_region ?_
      refine KV (R_cmp rfl rfl rfl) rfl ?_
      refine K_nil ?_
      refine Q_then ?_
      refine K_seq ?_
      refine K_if rfl (fun h22 => ?_) (fun h22 => ?_)
      ·
        have hk' : k < r.args.length := by omega
        obtain ⟨tb, to_, hte, hxk⟩ := (hrs.mono hV).get hk'
        cases hte
        have hqk := hra _ (List.getElem_mem hk')
        refine K_skip ?_
        refine Q_then ?_
        refine K_seq ?_
        refine K_block ?_
        refine K_seq ?_
        refine K_region ?_
        refine KV (R_indexN sl25 ty3 rfl rfl (by omega)) rfl ?_
        refine KV (R_loadH ty3 rfl (hxk) rfl (fun _ => rfl) rfl) rfl ?_
        refine KV (R_assign rfl) rfl ?_
        refine K_nil ?_
        refine Q_then ?_
        refine K_seq ?_
        refine K_region ?_
        refine KV (R_move rfl) rfl ?_
        refine KV (R_move rfl) rfl ?_
        refine K_splitB ?_ ?_
        ·
          intro h26
          refine K_gno rfl rfl rfl rfl ?_
          refine K_gno rfl rfl rfl rfl ?_
          refine K_gno rfl rfl rfl rfl ?_
          refine K_gno rfl rfl rfl rfl ?_
          refine K_gno rfl rfl rfl rfl ?_
          refine KV (R_pickT rfl rfl) rfl ?_
          refine KV (R_assign rfl) rfl ?_
          refine K_nil ?_
          refine Q_then ?_
          refine K_region ?_
          refine KV (R_loadH ty52 rfl (hA6.mono hV) rfl (fun _ => rfl) rfl) rfl ?_
          refine KV (R_move rfl) rfl ?_
          refine KV (R_index sl52 ty4 rfl rfl ⟨by omega, by omega⟩) rfl ?_
          refine K_storeE ty4 1 rfl rfl rfl rfl (by rw [mkL_size]; show _ + 1 ≤ _; omega) rfl (mkL_put (q := r.args[k]) (by omega) (by omega)) ?_
          refine K_nil ?_
          refine Q_block ?_
          refine Q_then ?_
          refine K_region ?_
          refine KV (R_add rfl rfl (by omega)) rfl ?_
          refine KV (R_move rfl) rfl ?_
          refine K_nil ?_
          refine Q_nextD ((k + 1)) hk' (by (try dsimp only); omega) ⟨rfl, (congrArg (fun z => some (Value.bool z)) (by rw [setsL_more hk' (by omega), h26]; simp)), trivial⟩ rfl (by dsimp only [List.set]; rw [setsL_snoc hk']) rfl
        ·
          intro h26
          refine K_gyes rfl rfl ?_
          refine KV (R_loadH ty52 rfl (hA6.mono hV) rfl (fun _ => rfl) rfl) rfl ?_
          refine K_gyes rfl rfl ?_
          refine KV (R_move rfl) rfl ?_
          refine K_gyes rfl rfl ?_
          refine KV (R_index sl52 ty4 rfl rfl ⟨by omega, by rw [← hkl]; omega⟩) rfl ?_
          refine K_gyes rfl rfl ?_
          refine KV (R_loadC ty4 1 rfl rfl (mkL_get (q := r.args[k]) (by omega) (by omega))) rfl ?_
          refine K_gyes rfl rfl ?_
          refine KV (R_not rfl) rfl ?_
          refine KV (R_pickF rfl rfl) rfl ?_
          refine KV (R_assign rfl) rfl ?_
          refine K_nil ?_
          refine Q_then ?_
          refine K_region ?_
          refine KV (R_loadH ty52 rfl (hA6.mono hV) rfl (fun _ => rfl) rfl) rfl ?_
          refine KV (R_move rfl) rfl ?_
          refine KV (R_index sl52 ty4 rfl rfl ⟨by omega, by omega⟩) rfl ?_
          refine K_storeE ty4 1 rfl rfl rfl rfl (by rw [mkL_size]; show _ + 1 ≤ _; omega) rfl (mkL_put (q := r.args[k]) (by omega) (by omega)) ?_
          refine K_nil ?_
          refine Q_block ?_
          refine Q_then ?_
          refine K_region ?_
          refine KV (R_add rfl rfl (by omega)) rfl ?_
          refine KV (R_move rfl) rfl ?_
          refine K_nil ?_
          refine Q_nextD ((k + 1)) hk' (by (try dsimp only); omega) ⟨rfl, (congrArg (fun z => some (Value.bool z)) (by rw [setsL_more hk' (by omega), h26]; simp)), trivial⟩ rfl (by dsimp only [List.set]; rw [setsL_snoc hk']) rfl
      ·
        have hk' : k = r.args.length := by omega
        rw [hk', List.take_length]
        refine K_exit ?_
        refine Q_then_exit ?_
        refine Q_then_exit ?_
        refine Q_block_exit ?_
        refine Q_then ?_
        refine K_seq ?_
        refine K_region ?_
        refine KV (R_move rfl) rfl ?_
        refine KV (R_assign rfl) rfl ?_
        refine K_nil ?_
        refine Q_then ?_
        refine K_ret ?_
        refine results_sel [1] rfl (rs := [.tmp 4]) (vs := [_]) rfl ⟨rfl, trivial⟩ ?_
        rw [lead_do h13 h17]
        exact ⟨rfl, rfl⟩
    ·
      refine K_skip ?_
      refine Q_then ?_
      refine K_seq ?_
      refine K_region ?_
      refine KV (R_move rfl) rfl ?_
      refine KV (R_assign rfl) rfl ?_
      refine K_nil ?_
      refine Q_then ?_
      refine K_ret ?_
      refine results_sel [1] rfl (rs := [.tmp 4]) (vs := [_]) rfl ⟨rfl, trivial⟩ ?_
      rw [lead_not (fun h => by rw [h17] at h; cases h.2)]
      exact ⟨by simp [tupV], rfl⟩
  ·
    intro h13
    refine K_gno rfl rfl rfl rfl ?_
    refine K_gno rfl rfl rfl rfl ?_
    refine K_gno rfl rfl rfl rfl ?_
    refine KV (R_pickF rfl rfl) rfl ?_
    refine K_nil ?_
    refine Q_then ?_
    refine K_ifF rfl ?_
    refine K_skip ?_
    refine Q_then ?_
    refine K_seq ?_
    refine K_region ?_
    refine KV (R_move rfl) rfl ?_
    refine KV (R_assign rfl) rfl ?_
    refine K_nil ?_
    refine Q_then ?_
    refine K_ret ?_
    refine results_sel [1] rfl (rs := [.tmp 4]) (vs := [_]) rfl ⟨rfl, trivial⟩ ?_
    rw [lead_not (fun h => by rw [h13] at h; cases h.1)]
    exact ⟨by simp [tupV], rfl⟩
end Go.Proofs.X

namespace Go.Proofs.X
open Go Pal Go.Proofs
attribute [local irreducible] Pal.KO Pal.KC Pal.KQ Pal.KD

theorem close_spec (a : Au) (vr vu vf : Value) (H0 : View) (ha : RepAu H0 a vr vu vf) (gf : Nat) (cap0 : List Value) (hct : callable Tryz.prog gf = true) (S : List Bool → Rl → List Bool) (hS : ∀ m r, Up m (S m r)) (ent : List Bool → Own) (n : Nat)
    (hvis : ∀ V m r va, VLe H0 V → m.length = n → r ∈ a.rules → RVok V (r, va) → SatO Tryz.prog gf ([] ++ [Value.agg (cellRV (r, va)).toArray] ++ cap0).toArray V [ent m] (fun v _ p => v = .bool (decide (S m r ≠ m)) ∧ p = [ent (S m r)]))
    (m0 : List Bool) (hm0 : m0.length = n) : SatO Tryz.prog F2056 #[.agg #[vr, .int .i64 a.states, vu, vf], .func (.func gf) #[] cap0.toArray] H0 [ent m0] (fun _ _ p => ∃ m k, p = [ent m] ∧ m = iterF (fun z => a.rules.foldl S z) k m0 ∧ a.rules.foldl S m = m) := by
  have hab := ha.ul
  obtain ⟨ar, arc, rfl⟩ := ha.r.shape
  obtain ⟨af, afc, rfl⟩ := ha.f.shape
  obtain ⟨au, auc, rfl⟩ := ha.ushape
  refine enterO (n := 22) (args := [.agg #[.slice ar a.ranks.length arc, .int .i64 a.states, .slice au a.rules.length auc, .slice af a.final.length afc], .func (.func gf) #[] cap0.toArray]) Tryz.func83 rfl rfl rfl fun w0 => ?_
  refine K_seq ?_
  refine K_region ?_
  refine KA (A_box rfl) rfl fun b2 => ?_
  refine K_nil ?_
  refine Q_then ?_
  refine K_seq ?_
  refine K_region ?_
  refine KV (R_assign rfl) rfl ?_
  refine K_nil ?_
  refine Q_then ?_
  refine K_block ?_
  refine K_loopD (G := Nat × List Bool × View × Bool) [4, 6, 7, 8, 9, 10, 11, 12, 13, 14, 15, 16, 17, 18, 19, 20, 21] (fun g => [(4, .bool g.2.2.2)]) (fun hl g => (hl.set 1 (ent g.2.1))) (fun g => g.2.2.1) (fun g => (VLe H0 g.2.2.1) ∧ (g.2.1 = iterF (fun z => a.rules.foldl S z) g.1 m0) ∧ (g.2.1.length = n) ∧ (g.2.2.2 = false → a.rules.foldl S g.2.1 = g.2.1)) (fun g => (n - g.2.1.count true) + (if g.2.2.2 = true then 1 else 0)) (0, m0, H0, true) ⟨VLe.refl _, rfl, hm0, fun e => by cases e⟩ ⟨rfl, trivial⟩ (by simp only [args0, Nat.reduceAdd, del, memN, beqN, Nat.reduceBEq, cond_true, cond_false]; rfl) rfl rfl ?_
  rintro ⟨k, m, V, more⟩ ⟨hV, hm, hmn, hfix⟩
  dsimp only at hV hm hmn hfix
  dsimp only [List.set, List.cons_append, List.nil_append]
  refine K_seq ?_
  refine K_seq ?_
  refine K_region ?_
  refine KV (R_move rfl) rfl ?_
  refine K_nil ?_
  refine Q_then ?_
  refine K_ifB rfl (fun h7 => ?_) (fun h7 => ?_)
  ·
    refine K_skip ?_
    refine Q_then ?_
    refine K_block ?_
    refine K_seq ?_
    refine K_region ?_
    refine KV (R_assign rfl) rfl ?_
    refine K_nil ?_
    refine Q_then ?_
    refine K_seq ?_
    refine K_region ?_
    refine KV (R_fieldAddr 2 fd50_2 rfl) rfl ?_
    refine KV (R_loadO ty48 0 rfl rfl rfl rfl (fun _ => rfl) rfl) rfl ?_
    refine KV (R_len sl48 rfl) rfl ?_
    refine KV (R_move rfl) rfl ?_
    refine K_nil ?_
    refine Q_then ?_
    refine K_block ?_
    refine K_loopD (G := Nat × View) [4, 6, 11, 12, 13, 14, 15, 16, 17, 18, 19, 20, 21] (fun g => [(11, .int .i64 (g.1 : Int)), (4, .bool (decide ((a.rules.take g.1).foldl S m ≠ m)))]) (fun hl g => (hl.set 1 (ent ((a.rules.take g.1).foldl S m)))) (fun g => g.2) (fun g => (g.1 ≤ a.rules.length) ∧ (VLe V g.2)) (fun g => a.rules.length - g.1) (0, V) ⟨Nat.zero_le _, VLe.refl _⟩ ⟨rfl, (congrArg (fun z => some (Value.bool z)) (by simp)), trivial⟩ (by simp only [args0, Nat.reduceAdd, del, memN, beqN, Nat.reduceBEq, cond_true, cond_false]; rfl) rfl rfl ?_
    rintro ⟨j, V1⟩ ⟨hj, hV1⟩
    dsimp only at hj hV1
    dsimp only [List.set, List.cons_append, List.nil_append]
    refine K_seq ?_
    refine K_region ?_
    refine KV (R_cmp rfl rfl rfl) rfl ?_
    refine K_nil ?_
    refine Q_then ?_
    refine K_seq ?_
    refine K_if rfl (fun h12 => ?_) (fun h12 => ?_)
    ·
      have hj' : j < a.rules.length := by omega
      obtain ⟨ub, uo, ucp2, xa, xcp, hue, hrc, hsr, hsym, hto, hxl⟩ := (ha.mono (hV.trans hV1)).rule hj'
      cases hue
      refine K_skip ?_
      refine Q_then ?_
      refine K_seq ?_
      refine K_block ?_
      refine K_seq ?_
      refine K_region ?_
      refine KV (R_indexN sl48 ty85 rfl rfl (by omega)) rfl ?_
      refine KV (R_loadH ty85 rfl (hrc) rfl (fun e => by cases e) rfl) rfl ?_
      refine KA (A_alloc z85) rfl fun b6 => ?_
      refine K_storeW ty85 0 rfl rfl rfl rfl rfl rfl rfl ?_
      refine K_nil ?_
      refine Q_then ?_
      refine K_region ?_
      refine KV (R_move rfl) rfl ?_
      refine KV (R_loadW ty85 0 rfl rfl rfl rfl) rfl ?_
      refine KO_sel [2, 0, 0] rfl ?_
      refine K_callO (first := []) [_] _ (List.Perm.refl _) hct rfl rfl rfl (hvis V1 _ a.rules[j] _ (hV.trans hV1) ((up_fold hS (a.rules.take j) m).len.trans hmn) (List.getElem_mem hj') ⟨hsr, hxl, hsym, hto⟩) ?_
      rintro _ V2 q17 hv2 ⟨rfl, rfl⟩
      dsimp only [List.cons_append, List.nil_append]
      refine KV (R_move rfl) rfl ?_
      refine K_splitB ?_ ?_
      ·
        intro h18
        refine K_gno rfl rfl rfl rfl ?_
        refine KV (R_pickT rfl rfl) rfl ?_
        refine KV (R_assign rfl) rfl ?_
        refine K_nil ?_
        refine Q_block ?_
        refine Q_then ?_
        refine K_region ?_
        refine KV (R_add rfl rfl (by omega)) rfl ?_
        refine KV (R_move rfl) rfl ?_
        refine K_nil ?_
        refine KQ_sel [2, 0] rfl ?_
        refine Q_nextD (j + 1, V2) ⟨hj', hV1.trans hv2⟩ (by (try dsimp only); omega) ⟨rfl, (congrArg (fun z => some (Value.bool z)) (by rw [fold_more hS hj', h18]; simp)), trivial⟩ rfl (by dsimp only [List.set]; rw [List.take_succ_eq_append_getElem hj', List.foldl_append]; rfl) rfl
      ·
        intro h18
        refine K_gyes rfl rfl ?_
        refine KV (R_move rfl) rfl ?_
        refine KV (R_pickF rfl rfl) rfl ?_
        refine KV (R_assign rfl) rfl ?_
        refine K_nil ?_
        refine Q_block ?_
        refine Q_then ?_
        refine K_region ?_
        refine KV (R_add rfl rfl (by omega)) rfl ?_
        refine KV (R_move rfl) rfl ?_
        refine K_nil ?_
        refine KQ_sel [2, 0] rfl ?_
        refine Q_nextD (j + 1, V2) ⟨hj', hV1.trans hv2⟩ (by (try dsimp only); omega) ⟨rfl, (congrArg (fun z => some (Value.bool z)) (by rw [fold_more hS hj', h18]; simp)), trivial⟩ rfl (by dsimp only [List.set]; rw [List.take_succ_eq_append_getElem hj', List.foldl_append]; rfl) rfl
    ·
      have hj' : j = a.rules.length := by omega
      rw [hj', List.take_length]
      refine K_exit ?_
      refine Q_then_exit ?_
      refine Q_then_exit ?_
      refine Q_block_exit ?_
      refine Q_block ?_
      have hup := up_fold hS a.rules m
      have hcl := List.count_le_length (a := true) (l := a.rules.foldl S m)
      have hln := hup.len
      refine Q_nextD (k + 1, a.rules.foldl S m, V1, decide (a.rules.foldl S m ≠ m)) ⟨hV.trans hV1, by rw [hm]; rfl, by rw [hln]; exact hmn, fun e => by have e2 := Decidable.not_not.1 (of_decide_eq_false e); rw [e2]; exact e2⟩ (by
        dsimp only
        rw [if_pos h7]
        rcases hup.cnt with e | e
        · rw [e]; simp
        · split <;> omega) ⟨rfl, trivial⟩ rfl rfl rfl
  ·
    refine K_exit ?_
    refine Q_then_exit ?_
    refine Q_then_exit ?_
    refine Q_block_exit ?_
    refine Q_fall ?_
    refine results_sel [1] rfl (rs := []) (vs := []) rfl trivial ?_
    exact ⟨m, k, rfl, hm, hfix h7⟩

theorem gone_spec (a : Au) (n b1 bt : Nat) (q : Int) (H : View) (hn : n ≤ 65536) (hA : At H b1 0 [slc n bt]) (hc : At H bt 0 (fnC n (toF a n)).toList) (hq : 0 ≤ q ∧ q < (n : Int)) : Sat Tryz.prog F2059 ([] ++ [Value.int .i64 q] ++ [ptr b1]).toArray H (fun v _ => v = .bool (!stayA a q)) := by
  have hcm := hc.fn (q := q) (by omega)
  rw [toF_full (by omega)] at hcm
  refine enterO (n := 9) (args := [.int .i64 q, ptr b1]) Tryz.func86 rfl rfl rfl fun w0 => ?_
  refine K_seq ?_
  refine K_region ?_
  refine KV (R_assign rfl) rfl ?_
  refine K_nil ?_
  refine Q_then ?_
  refine K_seq ?_
  refine K_region ?_
  refine KV (R_loadH ty25 rfl (hA) rfl (fun _ => rfl) rfl) rfl ?_
  refine KV (R_move rfl) rfl ?_
  refine KV (R_index sl25 ty3 rfl rfl ⟨by omega, by omega⟩) rfl ?_
  refine KV (R_loadH ty3 rfl (hcm) rfl (fun _ => rfl) rfl) rfl ?_
  refine KV (R_cmp rfl rfl rfl) rfl ?_
  refine KV (R_assign rfl) rfl ?_
  refine K_nil ?_
  refine Q_then ?_
  refine K_ret ?_
  refine results_gen (rs := [.tmp 3]) (vs := [_]) rfl ⟨rfl, trivial⟩ ?_
  refine congrArg Value.bool ?_
  have h1 := newV_neg (a := a) (x := q.toNat)
  rw [Int.toNat_of_nonneg hq.1] at h1
  by_cases hb : stayA a q = true
  · rw [hb]; exact decide_eq_false (fun h => by rw [h1.1 h] at hb; cases hb)
  · have hb2 : stayA a q = false := by simpa using hb
    rw [hb2]; exact decide_eq_true (h1.2 hb2)
end Go.Proofs.X

namespace Go.Proofs.X
open Go Pal Go.Proofs
attribute [local irreducible] Pal.KO Pal.KC Pal.KQ Pal.KD
theorem z4 : zeroOk Tryz.prog T4 (.bool false) := .of (by kernel_rfl)
theorem z52 : zeroOk Tryz.prog T52 (.slice none 0 0) := .of (by kernel_rfl)
theorem z2048 : zeroOk Tryz.prog T2048 (.nilFunc) := .of (by kernel_rfl)
theorem c2056 : callable Tryz.prog F2056 = true := by kernel_rfl
theorem c2057 : callable Tryz.prog F2057 = true := by kernel_rfl
theorem c2058 : callable Tryz.prog F2058 = true := by kernel_rfl
theorem c2059 : callable Tryz.prog F2059 = true := by kernel_rfl
theorem ap52 : App Tryz.prog T52 T4 1 1 := .of sl52 (by kernel_rfl)
set_option maxHeartbeats 1000000 in
theorem ntrim_spec (a : Au) (v1 v2 v3 : Value) (H : View) (ha : RepAu H a v1 v2 v3) : Sat Tryz.prog F2029 #[.agg #[v1, .int .i64 a.states, v2, v3]] H (fun r H' => ∃ v1 v2 v3, r = .tuple #[.agg #[v1, .int .i64 (errAu (auErr a) (normA (trimA a))).states, v2, v3], .int .i64 (auErr a)] ∧ RepAu H' (errAu (auErr a) (normA (trimA a))) v1 v2 v3) := by
  obtain ⟨ar, arc, rfl⟩ := ha.r.shape
  obtain ⟨af, afc, rfl⟩ := ha.f.shape
  obtain ⟨au, auc, rfl⟩ := ha.ushape
  have hab := ha.b
  have hrl := ha.rl
  have hul := ha.ul
  have hfl := ha.fl
  refine enterO (n := 157) (args := [.agg #[.slice ar a.ranks.length arc, .int .i64 a.states, .slice au a.rules.length auc, .slice af a.final.length afc]]) Tryz.func40 rfl rfl rfl fun w0 => ?_
  refine K_seq ?_
  refine K_region ?_
  refine KA (A_box rfl) rfl fun b1 => ?_
  refine KA (A_alloc z50) rfl fun b2 => ?_
  refine KV (R_assign rfl) rfl ?_
  refine K_nil ?_
  refine Q_then ?_
  refine K_seq ?_
  refine K_seq ?_
  refine K_region ?_
  refine KV (R_loadW ty50 1 rfl rfl rfl rfl) rfl ?_
  refine K_call c77 rfl rfl (ncheck_spec a _ _ _ H ha) ?_
  rintro _ V1 hv1 rfl
  refine KV (R_assign rfl) rfl ?_
  refine K_nil ?_
  refine Q_then ?_
  refine K_seq ?_
  refine K_region ?_
  refine KV (R_move rfl) rfl ?_
  refine KV (R_cmp rfl rfl rfl) rfl ?_
  refine K_nil ?_
  refine Q_then ?_
  refine K_if rfl (fun h24 => ?_) (fun h24 => ?_)
  ·
    refine K_seq ?_
    refine K_region ?_
    refine KV (R_build z50 pl50 rfl rfl) rfl ?_
    refine KV (R_move rfl) rfl ?_
    refine K_storeW ty50 0 rfl rfl rfl rfl rfl rfl rfl ?_
    refine KV (R_assign rfl) rfl ?_
    refine K_nil ?_
    refine Q_then ?_
    refine K_ret ?_
    refine Q_then_ret ?_
    refine results_gen (rs := [.cell 2 37, .tmp 3]) (vs := [_, _]) rfl ⟨⟨_, _, _, _, _, _, 0, rfl, rfl, ty50, (fun e => by cases e), rfl, rfl⟩, ⟨rfl, trivial⟩⟩ ?_
    rw [errAu_no h24]
    exact ⟨nilS, nilS, nilS, rfl, RepAu.nil _⟩
  ·
    have hae := Decidable.not_not.1 h24
    have hok := AuOk.of hae
    obtain ⟨hst0, hst1⟩ := hok.st
    have hns : a.states = ((a.states.toNat : Nat) : Int) := by omega
    have hnb : a.states.toNat ≤ 256 := by omega
    refine K_skip ?_
    refine Q_then ?_
    refine K_seq ?_
    refine K_regionD (fin := true) (R := [0, 1, 3, 4, 2, 6, 7, 8, 5, 9]) (by kernel_rfl) mixed (.cons_cons _ (.cons_cons _ (List.nil_sublist _))) ?_
    refine D_val rfl rfl rfl (R_fieldAddr 1 fd50_1 rfl) ?_
    refine D_val rfl rfl rfl (R_loadO ty3 1 rfl rfl rfl rfl (fun _ => rfl) rfl) ?_
    refine D_val rfl rfl rfl (R_fieldAddr 1 fd50_1 rfl) ?_
    refine D_val rfl rfl rfl (R_loadO ty3 1 rfl rfl rfl rfl (fun _ => rfl) rfl) ?_
    refine D_makeSlice rfl rfl rfl ⟨⟨0, rfl⟩, ⟨1, rfl⟩, trivial⟩ (A_makeSlice (k := a.states.toNat) ap52 z4 ty4 (congrArg (fun z => some (Value.int .i64 z)) hns) (congrArg (fun z => some (Value.int .i64 z)) hns) (by omega) (by omega)) fun b29 => ?_
    refine D_alloc rfl rfl rfl (A_alloc z52) fun b5 => ?_
    refine D_alloc rfl rfl rfl (A_alloc z52) fun b6 => ?_
    refine D_storeW ty52 1 rfl rfl rfl rfl rfl ⟨⟨2, rfl⟩, ⟨3, rfl⟩, trivial⟩ rfl rfl rfl rfl ?_
    refine D_makeSlice rfl rfl rfl ⟨⟨3, rfl⟩, ⟨4, rfl⟩, trivial⟩ (A_makeSlice (k := a.states.toNat) ap52 z4 ty4 (congrArg (fun z => some (Value.int .i64 z)) hns) (congrArg (fun z => some (Value.int .i64 z)) hns) (by omega) (by omega)) fun b32 => ?_
    refine D_lastStoreW ty52 2 rfl rfl rfl rfl rfl rfl rfl rfl rfl ?_
    refine KQ_front 1 rfl ?_
    try dsimp only [List.eraseIdx]
    refine KQ_pubF fun Ua hua hb5 => ?_
    skip
    refine KQ_front 1 rfl ?_
    try dsimp only [List.eraseIdx]
    refine KQ_pubF fun Ub hub hb6 => ?_
    skip
    rw [show madeCells (Value.bool false).cells (a.states.toNat * 1) = mkL (noneL a.states.toNat) from mkL_made _]
    have hA5 : At Ub b5 0 [slc a.states.toNat b29] := (At.of hb5).mono hub
    have hA6 : At Ub b6 0 [slc a.states.toNat b32] := At.of hb6
    have hvX := hv1.trans (hua.trans hub)
    refine Q_then ?_
    refine K_seq ?_
    refine K_region ?_
    refine KV (R_makeFunc rfl rfl) rfl ?_
    refine KA (A_alloc z2048) rfl fun b7 => ?_
    refine K_storeW ty2048 0 rfl rfl rfl rfl rfl rfl rfl ?_
    refine K_nil ?_
    refine KQ_front 0 rfl ?_
    try dsimp only [List.eraseIdx]
    refine KQ_pubF fun Uc huc hb7 => ?_
    skip
    have hA7 : At Uc b7 0 [.func (.func F2054) #[] #[ptr b5]] := At.of hb7
    have hvX := hvX.trans huc
    have hA5 := hA5.mono huc
    have hA6 := hA6.mono huc
    have hvis1 : ∀ V m r va, VLe Uc V → m.length = a.states.toNat → r ∈ a.rules → RVok V (r, va) → SatO Tryz.prog F2057 ([] ++ [Value.agg (cellRV (r, va)).toArray] ++ [ptr b5, ptr b7]).toArray V [blk b29 (.cells (mkL m) T4 (0, 0))] (fun v _ p => v = .bool (decide (comeS m r ≠ m)) ∧ p = [blk b29 (.cells (mkL (comeS m r)) T4 (0, 0))]) := fun V m r va hV hm hr hrv => by
      obtain ⟨_, _, _, k4, k5, k6⟩ := hok.ru r hr
      exact come_spec m b5 b7 b29 r va V (by omega) (by rw [hm]; exact hA5.mono hV) (hA7.mono hV) hrv (fun q hq => by have := k4 q hq; omega) (by omega)
    refine Q_then ?_
    refine K_seq ?_
    refine K_region ?_
    refine KV (R_loadW ty50 3 rfl rfl rfl rfl) rfl ?_
    refine KV (R_makeFunc rfl rfl) rfl ?_
    refine KO_sel [1, 0, 0, 0] rfl ?_
    refine K_callO (first := []) [_] _ (List.Perm.refl _) c2056 rfl rfl rfl (close_spec a _ _ _ Uc (ha.mono hvX) F2057 [ptr b5, ptr b7] c2057 comeS up_comeS (fun z => blk b29 (.cells (mkL z) T4 (0, 0))) a.states.toNat hvis1 (noneL a.states.toNat) (List.length_replicate ..)) ?_
    rintro _ V2 q2 hv2 ⟨m, k, rfl, hm, hfix⟩
    dsimp only [List.cons_append, List.nil_append]
    have hm2 : m = iterF (comeF a.rules) k (noneL a.states.toNat) := hm
    have hmc : m = comeA a := hm2.trans (comeA_is (by rw [← hm2]; exact hfix))
    subst hmc
    clear hm hm2 hfix k
    have hvX := hvX.trans hv2
    refine K_nil ?_
    refine KQ_front 0 rfl ?_
    try dsimp only [List.eraseIdx]
    refine KQ_pubF fun Ud hud hb29 => ?_
    skip
    have hm29 : At Ud b29 0 (mkL (comeA a)).toList := At.of hb29
    have hvX := hvX.trans hud
    have hA5 := hA5.mono (hv2.trans hud)
    have hA6 := hA6.mono (hv2.trans hud)
    have hA7 := hA7.mono (hv2.trans hud)
    have hcl := comeA_len a
    have hvis2 : ∀ V m r va, VLe Ud V → m.length = a.states.toNat → r ∈ a.rules → RVok V (r, va) → SatO Tryz.prog F2058 ([] ++ [Value.agg (cellRV (r, va)).toArray] ++ [ptr b6, ptr b7]).toArray V [blk b32 (.cells (mkL m) T4 (0, 0))] (fun v _ p => v = .bool (decide (leadS (comeA a) m r ≠ m)) ∧ p = [blk b32 (.cells (mkL (leadS (comeA a) m r)) T4 (0, 0))]) := fun V m r va hV hm hr hrv => by
      obtain ⟨_, _, _, k4, k5, k6⟩ := hok.ru r hr
      exact lead_spec (comeA a) m b5 b6 b7 b29 b32 r va V (by omega) (by omega) (by rw [hcl]; exact hA5.mono hV) (hm29.mono hV) (by rw [hm]; exact hA6.mono hV) (hA7.mono hV) hrv (fun q hq => by have := k4 q hq; omega) (by omega)
    refine Q_then ?_
    refine K_seq ?_
    refine K_seq ?_
    refine K_region ?_
    refine KV (R_fieldAddr 3 fd50_3 rfl) rfl ?_
    refine KV (R_loadO ty25 2 rfl rfl rfl rfl (fun _ => rfl) rfl) rfl ?_
    refine KV (R_len sl25 rfl) rfl ?_
    refine KV (R_move rfl) rfl ?_
    refine K_nil ?_
    refine Q_then ?_
    refine K_block ?_
    refine K_loopD (G := Nat) [9, 40, 41, 42, 43, 44, 45, 46, 47] (fun g => [(40, .int .i64 (g : Int))]) (fun hl g => (hl.set 0 (blk b32 (.cells (mkL (setsL (noneL a.states.toNat) (a.final.take g))) T4 (0, 0))))) (fun g => Ud) (fun g => (g ≤ a.final.length)) (fun g => a.final.length - g) (0 : Nat) (Nat.zero_le _) ⟨rfl, trivial⟩ (by simp only [args0, Nat.reduceAdd, del, memN, beqN, Nat.reduceBEq, cond_true, cond_false]; rfl) rfl rfl ?_
    rintro k hk
    try dsimp only at hk
    dsimp only [List.set, List.cons_append, List.nil_append]
    have hsl : (setsL (noneL a.states.toNat) (a.final.take k)).length = a.states.toNat := (setsL_len _ _).trans (List.length_replicate ..)
    refine K_seq ?_
    refine K_region ?_
    refine KV (R_cmp rfl rfl rfl) rfl ?_
    refine K_nil ?_
    refine Q_then ?_
    refine K_seq ?_
    refine K_if rfl (fun h41 => ?_) (fun h41 => ?_)
    ·
      have hk' : k < a.final.length := by omega
      obtain ⟨fb, fo, hfe, hfk⟩ := (ha.mono hvX).f.get hk'
      cases hfe
      have hqk := hok.fi _ (List.getElem_mem hk')
      refine K_skip ?_
      refine Q_then ?_
      refine K_seq ?_
      refine K_block ?_
      refine K_seq ?_
      refine K_region ?_
      refine KV (R_indexN sl25 ty3 rfl rfl (by omega)) rfl ?_
      refine KV (R_loadH ty3 rfl (hfk) rfl (fun _ => rfl) rfl) rfl ?_
      refine KV (R_assign rfl) rfl ?_
      refine K_nil ?_
      refine Q_then ?_
      refine K_region ?_
      refine KV (R_loadH ty52 rfl (hA6) rfl (fun _ => rfl) rfl) rfl ?_
      refine KV (R_move rfl) rfl ?_
      refine KV (R_index sl52 ty4 rfl rfl ⟨hqk.1, by omega⟩) rfl ?_
      refine K_storeE ty4 0 rfl rfl rfl rfl (by rw [mkL_size]; show _ + 1 ≤ _; omega) rfl (mkL_put (q := a.final[k]) (by omega) (by omega)) ?_
      refine K_nil ?_
      refine Q_block ?_
      refine Q_then ?_
      refine K_region ?_
      refine KV (R_add rfl rfl (by omega)) rfl ?_
      refine KV (R_move rfl) rfl ?_
      refine K_nil ?_
      refine Q_nextD ((k + 1)) hk' (by (try dsimp only); omega) ⟨rfl, trivial⟩ rfl (by dsimp only [List.set]; rw [setsL_snoc hk']) rfl
    ·
      have hk' : k = a.final.length := by omega
      rw [hk', List.take_length, finL_is]
      refine K_exit ?_
      refine Q_then_exit ?_
      refine Q_then_exit ?_
      refine Q_block_exit ?_
      refine Q_then ?_
      refine K_seq ?_
      refine K_region ?_
      refine KV (R_loadW ty50 2 rfl rfl rfl rfl) rfl ?_
      refine KV (R_makeFunc rfl rfl) rfl ?_
      refine KO_sel [0, 0, 0] rfl ?_
      refine K_callO (first := []) [_] _ (List.Perm.refl _) c2056 rfl rfl rfl (close_spec a _ _ _ Ud (ha.mono hvX) F2058 [ptr b6, ptr b7] c2058 (leadS (comeA a)) (up_leadS (comeA a)) (fun z => blk b32 (.cells (mkL z) T4 (0, 0))) a.states.toNat hvis2 (finL a.final a.states.toNat) (finL_len _ _)) ?_
      rintro _ V3 q3 hv3 ⟨m, k, rfl, hm, hfix⟩
      dsimp only [List.cons_append, List.nil_append]
      have hm2 : m = iterF (leadF (comeA a) a.rules) k (finL a.final a.states.toNat) := hm
      have hmc : m = leadA a := hm2.trans (leadA_is (by rw [← hm2]; exact hfix))
      subst hmc
      clear hm hm2 hfix k
      have hvX := hvX.trans hv3
      refine K_nil ?_
      refine KQ_front 0 rfl ?_
      try dsimp only [List.eraseIdx]
      refine KQ_pubF fun Ue hue hb32 => ?_
      skip
      have hm32 : At Ue b32 0 (mkL (leadA a)).toList := At.of hb32
      have hvX := hvX.trans hue
      have hll := leadA_len a
      have hA5 := hA5.mono (hv3.trans hue)
      have hA6 := hA6.mono (hv3.trans hue)
      have hm29 := hm29.mono (hv3.trans hue)
      refine Q_then ?_
      refine K_seq ?_
      refine K_region ?_
      refine KV (R_fieldAddr 0 fd50_0 rfl) rfl ?_
      refine KV (R_loadO ty47 1 rfl rfl rfl rfl (fun _ => rfl) rfl) rfl ?_
      refine K_call c45 rfl rfl (clone47_spec a.ranks _ Ue (ha.mono hvX).r hrl) ?_
      rintro _ V6 hv6 hcr
      obtain ⟨cra, crc, rfl⟩ := hcr.shape
      have hvX := hvX.trans hv6
      have hA5 := hA5.mono hv6
      have hA6 := hA6.mono hv6
      have hm29 := hm29.mono hv6
      have hm32 := hm32.mono hv6
      refine KV (R_build z50 pl50 rfl rfl) rfl ?_
      refine KA (A_alloc z50) rfl fun b10 => ?_
      refine K_storeW ty50 0 rfl rfl rfl rfl rfl rfl rfl ?_
      refine K_nil ?_
      refine Q_then ?_
      refine K_seq ?_
      refine K_region ?_
      refine KV (R_fieldAddr 1 fd50_1 rfl) rfl ?_
      refine KV (R_loadO ty3 2 rfl rfl rfl rfl (fun _ => rfl) rfl) rfl ?_
      refine KA (A_makeSlice (k := a.states.toNat) ap25 z3 ty3 (congrArg (fun z => some (Value.int .i64 z)) hns) (congrArg (fun z => some (Value.int .i64 z)) hns) (by omega) (by omega)) rfl fun b57 => ?_
      refine KA (A_alloc z25) rfl fun b11 => ?_
      refine K_storeW ty25 0 rfl rfl rfl rfl rfl rfl rfl ?_
      refine K_nil ?_
      refine KQ_front 0 rfl ?_
      try dsimp only [List.eraseIdx]
      refine KQ_pubF fun Uf huf hb11 => ?_
      skip
      have hA11 : At Uf b11 0 [slc a.states.toNat b57] := At.of hb11
      have hvX := hvX.trans huf
      have hA5 := hA5.mono huf
      have hA6 := hA6.mono huf
      have hm29 := hm29.mono huf
      have hm32 := hm32.mono huf
      refine Q_then ?_
      refine K_seq ?_
      refine K_seq ?_
      refine K_region ?_
      refine KV (R_fieldAddr 1 fd50_1 rfl) rfl ?_
      refine KV (R_loadO ty3 3 rfl rfl rfl rfl (fun _ => rfl) rfl) rfl ?_
      refine KV (R_move rfl) rfl ?_
      refine K_nil ?_
      refine Q_then ?_
      refine K_block ?_
      refine K_loopD (G := Nat) [12, 60, 61, 62, 63, 64, 65, 66, 67, 68, 69, 70, 71, 72, 73, 74, 75, 76, 77, 78, 79, 80, 81, 82, 83, 84, 85] (fun g => [(60, .int .i64 (g : Int))]) (fun hl g => ((hl.set 0 (blk b57 (.cells (fnC a.states.toNat (toF a g)) T3 (0, 0)))).set 1 (blk b10 (.cells #[.slice cra a.ranks.length crc, .int .i64 ((cntN a g : Nat) : Int), .slice none 0 0, .slice none 0 0] T50 (0, 0))))) (fun g => Uf) (fun g => (g ≤ a.states.toNat)) (fun g => a.states.toNat - g) (0 : Nat) (Nat.zero_le _) ⟨rfl, trivial⟩ (by simp only [args0, Nat.reduceAdd, del, memN, beqN, Nat.reduceBEq, cond_true, cond_false]; rfl) (by rw [toF_zero, ← fnC_made]; rfl) rfl ?_
      rintro s hs
      try dsimp only at hs
      dsimp only [List.set, List.cons_append, List.nil_append]
      refine K_seq ?_
      refine K_region ?_
      refine KV (R_cmp rfl rfl rfl) rfl ?_
      refine K_nil ?_
      refine Q_then ?_
      refine K_seq ?_
      refine K_if rfl (fun h61 => ?_) (fun h61 => ?_)
      ·
        have hs' : s < a.states.toNat := by omega
        have hcs := hm29.markN (s := s) (by omega)
        have hls := hm32.markN (s := s) (by omega)
        have htl := cntN_le a s
        refine K_skip ?_
        refine Q_then ?_
        refine K_seq ?_
        refine K_block ?_
        refine K_seq ?_
        refine K_region ?_
        refine KV (R_move rfl) rfl ?_
        refine KV (R_assign rfl) rfl ?_
        refine K_nil ?_
        refine Q_then ?_
        refine K_seq ?_
        refine K_region ?_
        refine KV (R_loadH ty25 rfl (hA11) rfl (fun _ => rfl) rfl) rfl ?_
        refine KV (R_move rfl) rfl ?_
        refine KV (R_indexN sl25 ty3 rfl rfl (by omega)) rfl ?_
        refine K_storeE ty3 0 rfl rfl rfl rfl (by rw [fnC_size]; show _ + 1 ≤ _; omega) rfl (fnC_put hs' (by omega) (toG_is a s)) ?_
        refine K_nil ?_
        refine Q_then ?_
        refine K_seq ?_
        refine K_region ?_
        refine KV (R_loadH ty52 rfl (hA5) rfl (fun _ => rfl) rfl) rfl ?_
        refine KV (R_move rfl) rfl ?_
        refine KV (R_indexN sl52 ty4 rfl rfl (by omega)) rfl ?_
        refine KV (R_loadH ty4 rfl (hcs) rfl (fun _ => rfl) rfl) rfl ?_
        refine KV (R_move rfl) rfl ?_
        refine K_splitB ?_ ?_
        ·
          intro h70
          refine K_gyes rfl rfl ?_
          refine KV (R_loadH ty52 rfl (hA6) rfl (fun _ => rfl) rfl) rfl ?_
          refine K_gyes rfl rfl ?_
          refine KV (R_move rfl) rfl ?_
          refine K_gyes rfl rfl ?_
          refine KV (R_indexN sl52 ty4 rfl rfl (by omega)) rfl ?_
          refine K_gyes rfl rfl ?_
          refine KV (R_loadH ty4 rfl (hls) rfl (fun _ => rfl) rfl) rfl ?_
          refine KV (R_pickT rfl rfl) rfl ?_
          refine K_nil ?_
          refine Q_then ?_
          refine K_ifB rfl (fun h75 => ?_) (fun h75 => ?_)
          ·
            have hst : stayA a (s : Int) = true := by unfold stayA; rw [h70, h75]; rfl
            refine K_seq ?_
            refine K_region ?_
            refine KV (R_loadH ty25 rfl (hA11) rfl (fun _ => rfl) rfl) rfl ?_
            refine KV (R_move rfl) rfl ?_
            refine KV (R_fieldAddr 1 fd50_1 rfl) rfl ?_
            refine KV (R_loadO ty3 1 rfl rfl rfl rfl (fun _ => rfl) rfl) rfl ?_
            refine KV (R_indexN sl25 ty3 rfl rfl (by omega)) rfl ?_
            refine K_storeE ty3 0 rfl rfl rfl rfl (by rw [fnC_size]; show _ + 1 ≤ _; omega) rfl (fnC_put hs' (by omega) (toF_stay hst)) ?_
            refine K_nil ?_
            refine Q_then ?_
            refine K_region ?_
            refine KV (R_fieldAddr 1 fd50_1 rfl) rfl ?_
            refine KV (R_loadO ty3 1 rfl rfl rfl rfl (fun _ => rfl) rfl) rfl ?_
            refine KV (R_add rfl rfl (by omega)) rfl ?_
            refine KV (R_fieldAddr 1 fd50_1 rfl) rfl ?_
            refine K_store ty3 1 rfl rfl rfl rfl rfl rfl ?_
            refine K_nil ?_
            refine Q_block ?_
            refine Q_then ?_
            refine K_region ?_
            refine KV (R_add rfl rfl (by omega)) rfl ?_
            refine KV (R_move rfl) rfl ?_
            refine K_nil ?_
            refine Q_nextD ((s + 1)) hs' (by (try dsimp only); omega) ⟨rfl, trivial⟩ rfl (by rw [cntN_succ, if_pos hst]; rfl) rfl
          ·
            have hgone : stayA a (s : Int) = false := by unfold stayA; rw [h70, h75]; rfl
            refine K_skip ?_
            refine Q_block ?_
            refine Q_then ?_
            refine K_region ?_
            refine KV (R_add rfl rfl (by omega)) rfl ?_
            refine KV (R_move rfl) rfl ?_
            refine K_nil ?_
            refine Q_nextD ((s + 1)) hs' (by (try dsimp only); omega) ⟨rfl, trivial⟩ rfl (by rw [toF_gone hgone, cntN_succ, if_neg (by rw [hgone]; decide)]; rfl) rfl
        ·
          intro h70
          have hgone : stayA a (s : Int) = false := by unfold stayA; rw [h70]; rfl
          refine K_gno rfl rfl rfl rfl ?_
          refine K_gno rfl rfl rfl rfl ?_
          refine K_gno rfl rfl rfl rfl ?_
          refine K_gno rfl rfl rfl rfl ?_
          refine KV (R_pickF rfl rfl) rfl ?_
          refine K_nil ?_
          refine Q_then ?_
          refine K_ifF rfl ?_
          refine K_skip ?_
          refine Q_block ?_
          refine Q_then ?_
          refine K_region ?_
          refine KV (R_add rfl rfl (by omega)) rfl ?_
          refine KV (R_move rfl) rfl ?_
          refine K_nil ?_
          refine Q_nextD ((s + 1)) hs' (by (try dsimp only); omega) ⟨rfl, trivial⟩ rfl (by rw [toF_gone hgone, cntN_succ, if_neg (by rw [hgone]; decide)]; rfl) rfl
      ·
        have hs' : s = a.states.toNat := by omega
        subst hs'
        refine K_exit ?_
        refine Q_then_exit ?_
        refine Q_then_exit ?_
        refine Q_block_exit ?_
        refine Q_then ?_
        refine K_seq ?_
        refine KC_front 0 rfl ?_
        try dsimp only [List.eraseIdx]
        refine KC_pubF fun Ug hug hb57 => ?_
        skip
        have htab : At Ug b57 0 (fnC a.states.toNat (toF a a.states.toNat)).toList := At.of hb57
        have hvX := hvX.trans hug
        have hA11 := hA11.mono hug
        have hcr := hcr.mono (huf.trans hug)
        have hnn := cntN_le a a.states.toNat
        refine K_region ?_
        refine KV (R_makeFunc rfl rfl) rfl ?_
        refine KV (R_assign rfl) rfl ?_
        refine K_nil ?_
        refine Q_then ?_
        refine K_seq ?_
        refine K_seq ?_
        refine K_region ?_
        refine KV (R_fieldAddr 2 fd50_2 rfl) rfl ?_
        refine KV (R_loadO ty48 2 rfl rfl rfl rfl (fun _ => rfl) rfl) rfl ?_
        refine KV (R_len sl48 rfl) rfl ?_
        refine KV (R_move rfl) rfl ?_
        refine K_nil ?_
        refine Q_then ?_
        refine K_block ?_
        refine K_nilrow T85 3 ?_
        refine K_loopD (G := Nat × View × Value × List Value) [15, 16, 18, 90, 91, 92, 93, 94, 95, 96, 97, 98, 99, 100, 101, 102, 103, 104, 105, 106, 107, 108, 109, 110, 111, 112, 113, 114, 115, 116, 117, 118, 119, 120, 121, 122, 123, 124, 125, 126, 127, 128, 129, 130, 131, 132, 133] (fun g => [(90, .int .i64 (g.1 : Int))]) (fun hl g => ((hl.set 0 (row g.2.2.1 T85 3 (leftR a (a.rules.take g.1)).length g.2.2.2)).set 1 (blk b10 (.cells #[.slice cra a.ranks.length crc, .int .i64 ((cntN a a.states.toNat : Nat) : Int), g.2.2.1, .slice none 0 0] T50 (0, 0))))) (fun g => g.2.1) (fun g => (g.1 ≤ a.rules.length) ∧ (VLe Ug g.2.1) ∧ (RepL (RepR g.2.1) 3 (leftR a (a.rules.take g.1)) g.2.2.2) ∧ (∃ ad cp, g.2.2.1 = .slice ad (leftR a (a.rules.take g.1)).length cp)) (fun g => a.rules.length - g.1) (0, Ug, nilS, []) ⟨Nat.zero_le _, VLe.refl _, .nil, none, 0, rfl⟩ ⟨rfl, trivial⟩ (by simp only [args0, Nat.reduceAdd, del, memN, beqN, Nat.reduceBEq, cond_true, cond_false]; rfl) rfl rfl ?_
        rintro ⟨k, V, w, cells⟩ ⟨hk, hV, hC, hw⟩
        dsimp only at hk hV hC hw
        dsimp only [List.set, List.cons_append, List.nil_append]
        obtain ⟨wa, wcp, rfl⟩ := hw
        have hlb := leftR_len a (a.rules.take k)
        rw [List.length_take] at hlb
        refine K_seq ?_
        refine K_region ?_
        refine KV (R_cmp rfl rfl rfl) rfl ?_
        refine K_nil ?_
        refine Q_then ?_
        refine K_seq ?_
        refine K_if rfl (fun h91 => ?_) (fun h91 => ?_)
        ·
          have hk' : k < a.rules.length := by omega
          obtain ⟨ub, uo, ucp2, xa, xcp, hue, hrc, hsr, hsym, hto, hxl⟩ := (ha.mono (hvX.trans hV)).rule hk'
          cases hue
          obtain ⟨g1, g2, g3, g4, g5, g6⟩ := hok.ru _ (List.getElem_mem hk')
          refine K_skip ?_
          refine Q_then ?_
          refine K_seq ?_
          refine K_block ?_
          refine K_seq ?_
          refine K_region ?_
          refine KV (R_indexN sl48 ty85 rfl rfl (by omega)) rfl ?_
          refine KV (R_loadH ty85 rfl (hrc) rfl (fun e => by cases e) rfl) rfl ?_
          refine KA (A_alloc z85) rfl fun b15 => ?_
          refine K_storeW ty85 0 rfl rfl rfl rfl rfl rfl rfl ?_
          refine K_nil ?_
          refine Q_then ?_
          refine K_seq ?_
          refine K_seq ?_
          refine K_region ?_
          refine KV (R_move rfl) rfl ?_
          refine KV (R_fieldAddr 2 fd85_2 rfl) rfl ?_
          refine KV (R_loadO ty3 0 rfl rfl rfl rfl (fun _ => rfl) rfl) rfl ?_
          refine K_callO (first := []) [] _ (List.Perm.refl _) c2059 rfl rfl rfl (gone_spec a a.states.toNat b11 b57 a.rules[k].to V (by omega) (hA11.mono hV) (htab.mono hV) ⟨g5, by omega⟩).nil ?_
          rintro _ V1 q97 hv1 ⟨rfl, rfl⟩
          dsimp only [List.nil_append]
          refine KV (R_move rfl) rfl ?_
          refine K_splitB ?_ ?_
          ·
            intro h98
            have hke : keepR a a.rules[k] = false := by unfold keepR; rw [show stayA a a.rules[k].to = false by simpa using h98]; rfl
            refine K_gno rfl rfl rfl rfl ?_
            refine K_gno rfl rfl rfl rfl ?_
            refine K_gno rfl rfl rfl rfl ?_
            refine K_gno rfl rfl rfl rfl ?_
            refine KV (R_pickT rfl rfl) rfl ?_
            refine K_nil ?_
            refine Q_then ?_
            refine K_ifT rfl ?_
            refine K_exit ?_
            refine Q_then_exit ?_
            refine Q_block_exit ?_
            refine Q_then ?_
            refine K_region ?_
            refine KV (R_add rfl rfl (by omega)) rfl ?_
            refine KV (R_move rfl) rfl ?_
            refine K_nil ?_
            refine KQ_sel [1, 1, 1, 1] rfl ?_
            have hno : leftR a (a.rules.take (k + 1)) = leftR a (a.rules.take k) := by rw [leftR_snoc hk', if_neg (by rw [hke]; decide), List.append_nil]
            refine Q_nextD (k + 1, V1, .slice wa (leftR a (a.rules.take k)).length wcp, cells) ⟨hk', hV.trans hv1, by rw [hno]; exact hC.imp fun x cs h => h.mono hv1, _, _, by rw [hno]⟩ (by (try dsimp only); omega) ⟨rfl, trivial⟩ rfl (by dsimp only [List.set]; rw [hno]; rfl) rfl
          ·
            intro h98
            have hst : stayA a a.rules[k].to = true := by simpa using h98
            refine K_gyes rfl rfl ?_
            refine KV (R_fieldAddr 1 fd85_1 rfl) rfl ?_
            refine K_gyes rfl rfl ?_
            refine KV (R_loadO ty25 0 rfl rfl rfl rfl (fun _ => rfl) rfl) rfl ?_
            refine K_gyes rfl rfl ?_
            refine KV (R_move rfl) rfl ?_
            refine K_gyes rfl rfl ?_
            refine K_call c86 rfl rfl (sicon_spec F2059 [ptr b11] (fun q => !stayA a q) a.rules[k].args _ V1 (hsr.mono hv1) hxl c2059 (fun x V2 hx hV2 => gone_spec a a.states.toNat b11 b57 x V2 (by omega) (hA11.mono (hV.trans (hv1.trans hV2))) (htab.mono (hV.trans (hv1.trans hV2))) (by have := g4 x hx; omega))) ?_
            rintro _ V2 hv2 rfl
            refine KV (R_pickF rfl rfl) rfl ?_
            refine K_nil ?_
            refine Q_then ?_
            refine K_ifB rfl (fun h103 => ?_) (fun h103 => ?_)
            ·
              have hke : keepR a a.rules[k] = false := by
                unfold keepR
                obtain ⟨x, hx, hx2⟩ := List.any_eq_true.1 h103
                rw [Bool.and_eq_false_iff]; right
                exact List.all_eq_false.2 ⟨x, hx, by simpa using hx2⟩
              refine K_exit ?_
              refine Q_then_exit ?_
              refine Q_block_exit ?_
              refine Q_then ?_
              refine K_region ?_
              refine KV (R_add rfl rfl (by omega)) rfl ?_
              refine KV (R_move rfl) rfl ?_
              refine K_nil ?_
              refine KQ_sel [1, 1, 1, 1] rfl ?_
              have hno : leftR a (a.rules.take (k + 1)) = leftR a (a.rules.take k) := by rw [leftR_snoc hk', if_neg (by rw [hke]; decide), List.append_nil]
              refine Q_nextD (k + 1, V2, .slice wa (leftR a (a.rules.take k)).length wcp, cells) ⟨hk', hV.trans (hv1.trans hv2), by rw [hno]; exact hC.imp fun x cs h => h.mono (hv1.trans hv2), _, _, by rw [hno]⟩ (by (try dsimp only); omega) ⟨rfl, trivial⟩ rfl (by dsimp only [List.set]; rw [hno]; rfl) rfl
            ·
              have hall : ∀ y ∈ a.rules[k].args, stayA a y = true := fun y hy => by simpa using (List.any_eq_false.1 h103 y hy)
              have hke : keepR a a.rules[k] = true := keepR_iff.2 ⟨hst, hall⟩
              refine K_skip ?_
              refine Q_then ?_
              refine K_seq ?_
              refine K_region ?_
              refine KV (R_assign rfl) rfl ?_
              refine K_nil ?_
              refine Q_then ?_
              refine K_seq ?_
              refine K_seq ?_
              refine K_region ?_
              refine KV (R_fieldAddr 1 fd85_1 rfl) rfl ?_
              refine KV (R_loadO ty25 0 rfl rfl rfl rfl (fun _ => rfl) rfl) rfl ?_
              refine KV (R_len sl25 rfl) rfl ?_
              refine KV (R_move rfl) rfl ?_
              refine K_nil ?_
              refine Q_then ?_
              refine K_block ?_
              refine K_nilrow T3 1 ?_
              refine K_loopD (G := Nat × Value) [16, 18, 107, 108, 109, 110, 111, 112, 113, 114, 115, 116, 117, 118] (fun g => [(107, .int .i64 (g.1 : Int)), (16, g.2)]) (fun hl g => (hl.set 0 (row g.2 T3 1 g.1 (ints ((a.rules[k].args.take g.1).map (newA a)))))) (fun g => V2) (fun g => (g.1 ≤ a.rules[k].args.length) ∧ (∃ ad cp, g.2 = .slice ad g.1 cp)) (fun g => a.rules[k].args.length - g.1) (0, nilS) ⟨Nat.zero_le _, none, 0, rfl⟩ ⟨rfl, rfl, trivial⟩ (by simp only [args0, Nat.reduceAdd, del, memN, beqN, Nat.reduceBEq, cond_true, cond_false]; rfl) rfl rfl ?_
              rintro ⟨j, w3⟩ ⟨hj, hw3⟩
              dsimp only at hj hw3
              dsimp only [List.set, List.cons_append, List.nil_append]
              obtain ⟨xa3, xcp3, rfl⟩ := hw3
              refine K_seq ?_
              refine K_region ?_
              refine KV (R_cmp rfl rfl rfl) rfl ?_
              refine K_nil ?_
              refine Q_then ?_
              refine K_seq ?_
              refine K_if rfl (fun h108 => ?_) (fun h108 => ?_)
              ·
                have hj' : j < a.rules[k].args.length := by omega
                obtain ⟨tb, to_, hte, hxj⟩ := (hsr.mono (hv1.trans hv2)).get hj'
                cases hte
                have hqj := g4 _ (List.getElem_mem hj')
                have htj := htab.fn (q := a.rules[k].args[j]) (by omega)
                rw [toF_full (by omega), newV_new (hall _ (List.getElem_mem hj')) hqj.1] at htj
                refine K_skip ?_
                refine Q_then ?_
                refine K_seq ?_
                refine K_block ?_
                refine K_seq ?_
                refine K_region ?_
                refine KV (R_indexN sl25 ty3 rfl rfl (by omega)) rfl ?_
                refine KV (R_loadH ty3 rfl (hxj) rfl (fun _ => rfl) rfl) rfl ?_
                refine KV (R_assign rfl) rfl ?_
                refine K_nil ?_
                refine Q_then ?_
                refine K_region ?_
                refine KV (R_move rfl) rfl ?_
                refine KV (R_loadH ty25 rfl (hA11.mono (hV.trans (hv1.trans hv2))) rfl (fun _ => rfl) rfl) rfl ?_
                refine KV (R_move rfl) rfl ?_
                refine KV (R_index sl25 ty3 rfl rfl ⟨hqj.1, by omega⟩) rfl ?_
                refine KV (R_loadH ty3 rfl (htj.mono (hV.trans (hv1.trans hv2))) rfl (fun _ => rfl) rfl) rfl ?_
                refine KA (A_buildSlice (vs := [.int .i64 (newA a a.rules[k].args[j])]) sl25 ty3 z3 rfl rfl (by simp [Value.cells]) (by simp) rfl (by decide)) rfl fun b116 => ?_
                refine K_append1 0 ap25 rfl rfl rfl rfl rfl rfl ⟨by omega, by omega⟩ rfl fun a117 k117 hn117 => ?_
                refine KV (R_assign rfl) rfl ?_
                refine K_nil ?_
                refine Q_block ?_
                refine Q_then ?_
                refine K_region ?_
                refine KV (R_add rfl rfl (by omega)) rfl ?_
                refine KV (R_move rfl) rfl ?_
                refine K_nil ?_
                refine Q_nextD (j + 1, .slice a117 (j + 1) k117) ⟨hj', _, _, rfl⟩ (by (try dsimp only); omega) ⟨rfl, rfl, trivial⟩ rfl (by dsimp only; rw [take_ints_snoc hj']; rfl) rfl
              ·
                have hj' : j = a.rules[k].args.length := by omega
                subst hj'
                rw [List.take_length]
                refine K_exit ?_
                refine Q_then_exit ?_
                refine Q_then_exit ?_
                refine Q_block_exit ?_
                refine Q_then ?_
                refine KC_front 0 rfl ?_
                try dsimp only [List.eraseIdx]
                refine KC_pubrow rfl fun V3 hv3 hrowp => ?_
                skip
                have hva := hv1.trans (hv2.trans hv3)
                have hRR : RepR V3 (newR a a.rules[k]) [.int .i64 a.rules[k].sym, .slice xa3 a.rules[k].args.length xcp3, .int .i64 (newA a a.rules[k].to)] := by
                  have e : (newR a a.rules[k]).args.length = a.rules[k].args.length := List.length_map ..
                  have hnb := newA_bound hst ⟨g5, g6⟩
                  refine ⟨xa3, xcp3, by rw [e]; rfl, ?_, hsym, by show i64ok (newA a a.rules[k].to); simp only [i64ok]; omega, by rw [e]; exact hxl⟩
                  rw [e]
                  refine ⟨by show SlAt _ _ (a.rules[k].args.map (newA a)).length _; rw [List.length_map]; exact hrowp.sl, fun x hx => ?_⟩
                  obtain ⟨y, hy, rfl⟩ := List.mem_map.1 (show x ∈ a.rules[k].args.map (newA a) from hx)
                  have hnb2 := newA_bound (hall y hy) (g4 y hy)
                  simp only [i64ok]; omega
                have hto2 := htab.fn (q := a.rules[k].to) (by omega)
                rw [toF_full (by omega), newV_new hst g5] at hto2
                refine K_regionD (fin := true) (R := [0, 1, 2, 3, 4, 5, 6, 7, 8, 9, 10, 11, 12, 13, 14]) (by kernel_rfl) mixed (.cons_cons _ (.cons _ (.cons_cons _ (.cons_cons _ (.cons_cons _ (List.nil_sublist _)))))) ?_
                refine D_val rfl rfl rfl (R_fieldAddr 2 fd50_2 rfl) ?_
                refine D_val rfl rfl rfl (R_loadO ty48 1 rfl rfl rfl rfl (fun _ => rfl) rfl) ?_
                refine D_val rfl rfl rfl (R_fieldAddr 0 fd85_0 rfl) ?_
                refine D_val rfl rfl rfl (R_loadO ty3 0 rfl rfl rfl rfl (fun _ => rfl) rfl) ?_
                refine D_val rfl rfl rfl (R_move rfl) ?_
                refine D_val rfl rfl rfl (R_loadH ty25 rfl (hA11.mono (hV.trans hva)) rfl (fun _ => rfl) rfl) ?_
                refine D_val rfl rfl rfl (R_fieldAddr 2 fd85_2 rfl) ?_
                refine D_val rfl rfl rfl (R_loadO ty3 0 rfl rfl rfl rfl (fun _ => rfl) rfl) ?_
                refine D_val rfl rfl rfl (R_index sl25 ty3 rfl rfl ⟨g5, by omega⟩) ?_
                refine D_val rfl rfl rfl (R_loadH ty3 rfl (hto2.mono (hV.trans hva)) rfl (fun _ => rfl) rfl) ?_
                refine D_val rfl rfl rfl (R_build z85 pl85 rfl rfl) ?_
                refine D_alloc rfl rfl rfl (A_buildSlice (vs := [.agg #[.int .i64 a.rules[k].sym, .slice xa3 a.rules[k].args.length xcp3, .int .i64 (newA a a.rules[k].to)]]) sl48 ty85 z85 rfl rfl (by simp [Value.cells]) (by simp) rfl (by decide)) fun b130 => ?_
                refine D_append1 1 ap48 rfl rfl rfl rfl rfl rfl ⟨⟨0, rfl⟩, ⟨1, rfl⟩, ⟨2, rfl⟩, ⟨3, rfl⟩, trivial⟩ rfl rfl ⟨by omega, by omega⟩ fun a131 k131 hn131 => ?_
                refine D_val rfl rfl rfl (R_fieldAddr 2 fd50_2 rfl) ?_
                refine D_lastStore ty48 2 rfl rfl rfl rfl rfl rfl rfl rfl ?_
                refine Q_block ?_
                refine Q_then ?_
                refine K_region ?_
                refine KV (R_add rfl rfl (by omega)) rfl ?_
                refine KV (R_move rfl) rfl ?_
                refine K_nil ?_
                refine KQ_sel [0, 1, 1, 1] rfl ?_
                have hyes : leftR a (a.rules.take (k + 1)) = leftR a (a.rules.take k) ++ [newR a a.rules[k]] := by rw [leftR_snoc hk', if_pos hke]
                refine Q_nextD (k + 1, V3, .slice a131 ((leftR a (a.rules.take k)).length + 1) k131, cells ++ [.int .i64 a.rules[k].sym, .slice xa3 a.rules[k].args.length xcp3, .int .i64 (newA a a.rules[k].to)]) ⟨hk', hV.trans hva, by rw [hyes]; exact (hC.imp fun x cs h => h.mono hva).snoc hRR rfl, _, _, by rw [hyes, List.length_append (bs := [_])]; rfl⟩ (by (try dsimp only); omega) ⟨rfl, trivial⟩ rfl (by dsimp only [List.set]; rw [hyes, List.length_append (bs := [_])]; rfl) rfl
        ·
          have hk' : k = a.rules.length := by omega
          subst hk'
          rw [List.take_length] at hC
          rw [List.take_length]
          refine K_exit ?_
          refine Q_then_exit ?_
          refine Q_then_exit ?_
          refine Q_block_exit ?_
          refine Q_then ?_
          refine K_seq ?_
          refine K_seq ?_
          refine K_region ?_
          refine KV (R_fieldAddr 3 fd50_3 rfl) rfl ?_
          refine KV (R_loadO ty25 3 rfl rfl rfl rfl (fun _ => rfl) rfl) rfl ?_
          refine KV (R_len sl25 rfl) rfl ?_
          refine KV (R_move rfl) rfl ?_
          refine K_nil ?_
          refine Q_then ?_
          refine K_block ?_
          refine KC_front 0 rfl ?_
          try dsimp only [List.eraseIdx]
          refine KC_pubrow rfl fun Ur hur hrowR => ?_
          skip
          have hvQ := hV
          have hvR := hur
          have hC := hC.imp fun x cs h => h.mono hur
          clear hV
          refine K_nilrow T3 1 ?_
          refine K_loopD (G := Nat × View × Value) [20, 137, 138, 139, 140, 141, 142, 143, 144, 145, 146, 147, 148, 149, 150, 151, 152, 153, 154] (fun g => [(137, .int .i64 (g.1 : Int))]) (fun hl g => ((hl.set 0 (row g.2.2 T3 1 (leftF a (a.final.take g.1)).length (ints (leftF a (a.final.take g.1))))).set 1 (blk b10 (.cells #[.slice cra a.ranks.length crc, .int .i64 ((cntN a a.states.toNat : Nat) : Int), .slice wa (leftR a a.rules).length wcp, g.2.2] T50 (0, 0))))) (fun g => g.2.1) (fun g => (g.1 ≤ a.final.length) ∧ (VLe Ur g.2.1) ∧ (∃ ad cp, g.2.2 = .slice ad (leftF a (a.final.take g.1)).length cp)) (fun g => a.final.length - g.1) (0, Ur, nilS) ⟨Nat.zero_le _, VLe.refl _, none, 0, rfl⟩ ⟨rfl, trivial⟩ (by simp only [args0, Nat.reduceAdd, del, memN, beqN, Nat.reduceBEq, cond_true, cond_false]; rfl) rfl rfl ?_
          rintro ⟨k, V, f⟩ ⟨hk, hV, hf⟩
          dsimp only at hk hV hf
          dsimp only [List.set, List.cons_append, List.nil_append]
          obtain ⟨fa, fcp, rfl⟩ := hf
          have hlb := leftF_len a (a.final.take k)
          rw [List.length_take] at hlb
          refine K_seq ?_
          refine K_region ?_
          refine KV (R_cmp rfl rfl rfl) rfl ?_
          refine K_nil ?_
          refine Q_then ?_
          refine K_seq ?_
          refine K_if rfl (fun h138 => ?_) (fun h138 => ?_)
          ·
            have hk' : k < a.final.length := by omega
            obtain ⟨fb, fo, hfe, hfk⟩ := (ha.mono (hvX.trans (hvQ.trans (hvR.trans hV)))).f.get hk'
            cases hfe
            have hqk := hok.fi _ (List.getElem_mem hk')
            refine K_skip ?_
            refine Q_then ?_
            refine K_seq ?_
            refine K_block ?_
            refine K_seq ?_
            refine K_region ?_
            refine KV (R_indexN sl25 ty3 rfl rfl (by omega)) rfl ?_
            refine KV (R_loadH ty3 rfl (hfk) rfl (fun _ => rfl) rfl) rfl ?_
            refine KV (R_assign rfl) rfl ?_
            refine K_nil ?_
            refine Q_then ?_
            refine K_seq ?_
            refine K_region ?_
            refine KV (R_move rfl) rfl ?_
            refine KV (R_move rfl) rfl ?_
            refine K_callO (first := []) [] _ (List.Perm.refl _) c2059 rfl rfl rfl (gone_spec a a.states.toNat b11 b57 a.final[k] V (by omega) (hA11.mono (hvQ.trans (hvR.trans hV))) (htab.mono (hvQ.trans (hvR.trans hV))) ⟨hqk.1, by omega⟩).nil ?_
            rintro _ V1 q143 hv1 ⟨rfl, rfl⟩
            dsimp only [List.nil_append]
            refine KV (R_not rfl) rfl ?_
            refine K_nil ?_
            refine Q_then ?_
            refine K_ifB rfl (fun h144 => ?_) (fun h144 => ?_)
            ·
              have hst : stayA a a.final[k] = true := by simpa using h144
              have hto3 := htab.fn (q := a.final[k]) (by omega)
              rw [toF_full (by omega), newV_new hst hqk.1] at hto3
              refine K_regionD (fin := true) (R := [0, 1, 2, 3, 4, 5, 6, 7, 8, 9]) (by kernel_rfl) mixed (.cons _ (.cons_cons _ (.cons_cons _ (.cons_cons _ (List.nil_sublist _))))) ?_
              refine D_val rfl rfl rfl (R_fieldAddr 3 fd50_3 rfl) ?_
              refine D_val rfl rfl rfl (R_loadO ty25 0 rfl rfl rfl rfl (fun _ => rfl) rfl) ?_
              refine D_val rfl rfl rfl (R_loadH ty25 rfl (hA11.mono (hvQ.trans (hvR.trans (hV.trans hv1)))) rfl (fun _ => rfl) rfl) ?_
              refine D_val rfl rfl rfl (R_move rfl) ?_
              refine D_val rfl rfl rfl (R_index sl25 ty3 rfl rfl ⟨hqk.1, by omega⟩) ?_
              refine D_val rfl rfl rfl (R_loadH ty3 rfl (hto3.mono (hvQ.trans (hvR.trans (hV.trans hv1)))) rfl (fun _ => rfl) rfl) ?_
              refine D_alloc rfl rfl rfl (A_buildSlice (vs := [.int .i64 (newA a a.final[k])]) sl25 ty3 z3 rfl rfl (by simp [Value.cells]) (by simp) rfl (by decide)) fun b151 => ?_
              refine D_append1 0 ap25 rfl rfl rfl rfl rfl rfl ⟨⟨0, rfl⟩, ⟨1, rfl⟩, ⟨2, rfl⟩, trivial⟩ rfl rfl ⟨by omega, by omega⟩ fun a152 k152 hn152 => ?_
              refine D_val rfl rfl rfl (R_fieldAddr 3 fd50_3 rfl) ?_
              refine D_lastStore ty25 1 rfl rfl rfl rfl rfl rfl rfl rfl ?_
              refine Q_block ?_
              refine Q_then ?_
              refine K_region ?_
              refine KV (R_add rfl rfl (by omega)) rfl ?_
              refine KV (R_move rfl) rfl ?_
              refine K_nil ?_
              have hyes : leftF a (a.final.take (k + 1)) = leftF a (a.final.take k) ++ [newA a a.final[k]] := by rw [leftF_snoc hk', if_pos hst]
              refine Q_nextD (k + 1, V1, .slice a152 ((leftF a (a.final.take k)).length + 1) k152) ⟨hk', hV.trans hv1, _, _, by rw [hyes, List.length_append (bs := [_])]; rfl⟩ (by (try dsimp only); omega) ⟨rfl, trivial⟩ rfl (by dsimp only [List.set]; rw [hyes, List.length_append (bs := [_]), ints_snoc]; rfl) rfl
            ·
              have hst : stayA a a.final[k] = false := by simpa using h144
              refine K_skip ?_
              refine Q_block ?_
              refine Q_then ?_
              refine K_region ?_
              refine KV (R_add rfl rfl (by omega)) rfl ?_
              refine KV (R_move rfl) rfl ?_
              refine K_nil ?_
              have hno : leftF a (a.final.take (k + 1)) = leftF a (a.final.take k) := by rw [leftF_snoc hk', if_neg (by rw [hst]; decide), List.append_nil]
              refine Q_nextD (k + 1, V1, .slice fa (leftF a (a.final.take k)).length fcp) ⟨hk', hV.trans hv1, _, _, by rw [hno]⟩ (by (try dsimp only); omega) ⟨rfl, trivial⟩ rfl (by dsimp only [List.set]; rw [hno]) rfl
          ·
            have hk' : k = a.final.length := by omega
            subst hk'
            rw [List.take_length]
            refine K_exit ?_
            refine Q_then_exit ?_
            refine Q_then_exit ?_
            refine Q_block_exit ?_
            refine Q_then ?_
            refine K_seq ?_
            refine KC_front 0 rfl ?_
            try dsimp only [List.eraseIdx]
            refine KC_pubrow rfl fun Uz huz hrowF => ?_
            skip
            have hI : RepAu Uz (trimA a) (.slice cra a.ranks.length crc) (.slice wa (leftR a a.rules).length wcp) (.slice fa (leftF a a.final).length fcp) := by
              have hv7 := hvR.trans (hV.trans huz)
              refine ⟨hcr.mono (hvQ.trans hv7), ⟨cells, hrowR.sl.mono (hV.trans huz), hC.imp fun x cs h => h.mono (hV.trans huz)⟩, ⟨hrowF.sl, fun x hx => ?_⟩, by show i64ok ((cntN a a.states.toNat : Nat) : Int); simp only [i64ok]; omega, hrl, Nat.le_trans (leftR_len a a.rules) hul, Nat.le_trans (leftF_len a a.final) hfl⟩
              obtain ⟨y, hy, rfl⟩ := List.mem_map.1 (show x ∈ leftF a a.final from hx)
              obtain ⟨hy1, hy2⟩ := List.mem_filter.1 hy
              have hnb2 := newA_bound hy2 (hok.fi y hy1)
              simp only [i64ok]; omega
            refine K_region ?_
            refine KV (R_loadW ty50 0 rfl rfl rfl rfl) rfl ?_
            refine K_call c2045 rfl rfl (sortedS_spec (trimA a) _ _ _ Uz hI) ?_
            rintro _ V9 hv9 ⟨s1, s2, s3, rfl, hS⟩
            obtain ⟨sr, src, rfl⟩ := hS.r.shape
            obtain ⟨sf, sfc, rfl⟩ := hS.f.shape
            obtain ⟨su, suc, rfl⟩ := hS.ushape
            refine K_storeW ty50 1 rfl rfl rfl rfl rfl rfl rfl ?_
            refine KV (R_assign rfl) rfl ?_
            refine K_nil ?_
            refine Q_then ?_
            refine K_ret ?_
            refine results_gen (rs := [.cell 2 37, .tmp 3]) (vs := [_, _]) rfl ⟨⟨_, _, _, _, _, _, 1, rfl, rfl, ty50, (fun e => by cases e), rfl, rfl⟩, ⟨rfl, trivial⟩⟩ ?_
            rw [hae, errAu_ok rfl]
            exact ⟨_, _, _, rfl, hS⟩
end Go.Proofs.X

namespace Go.Proofs.X
open Go Pal Go.Proofs
attribute [local irreducible] Pal.KO Pal.KC Pal.KQ Pal.KD
theorem c2029 : callable Tryz.prog F2029 = true := by kernel_rfl
end Go.Proofs.X

namespace Go.Proofs.X
open Go Pal Go.Proofs
attribute [local irreducible] Pal.KO Pal.KC Pal.KQ Pal.KD

set_option maxHeartbeats 1000000 in
theorem equal_law (a b : Au) (bn : Int) (v1 v2 v3 w1 w2 w3 : Value) (H : View) (ha : RepAu H a v1 v2 v3) (hb : RepAu H b w1 w2 w3) (hla : ∀ r ∈ a.rules, r.args.length ≤ 1048576) (hlb : ∀ r ∈ b.rules, r.args.length ≤ 1048576) : Sat Tryz.prog F2008 #[.agg #[v1, .int .i64 a.states, v2, v3], .agg #[w1, .int .i64 b.states, w2, w3], .int .i64 bn] H (fun v _ => v = .bool true) := by
  obtain ⟨ar, arc, rfl⟩ := ha.r.shape
  obtain ⟨af, afc, rfl⟩ := ha.f.shape
  obtain ⟨au, auc, rfl⟩ := ha.ushape
  obtain ⟨br, brc, rfl⟩ := hb.r.shape
  obtain ⟨bf, bfc, rfl⟩ := hb.f.shape
  obtain ⟨bu, buc, rfl⟩ := hb.ushape
  have hab := ha.b
  refine enterO (n := 153) (args := [.agg #[.slice ar a.ranks.length arc, .int .i64 a.states, .slice au a.rules.length auc, .slice af a.final.length afc], .agg #[.slice br b.ranks.length brc, .int .i64 b.states, .slice bu b.rules.length buc, .slice bf b.final.length bfc], .int .i64 bn]) Tryz.func11 rfl rfl rfl fun w0 => ?_
  refine K_seq ?_
  refine K_region ?_
  refine KA (A_box rfl) rfl fun b3 => ?_
  refine KA (A_box rfl) rfl fun b4 => ?_
  refine KV (R_assign rfl) rfl ?_
  refine K_nil ?_
  refine Q_then ?_
  refine K_seq ?_
  refine K_seq ?_
  refine K_region ?_
  refine K_call c2009 rfl rfl (known32_spec _) ?_
  rintro _ V1 hv1 rfl
  refine KV (R_not rfl) rfl ?_
  refine K_nil ?_
  refine Q_then ?_
  refine K_ifB rfl (fun h13 => ?_) (fun h13 => ?_)
  ·
    cases h13
  ·
    refine K_skip ?_
    refine Q_then ?_
    refine K_seq ?_
    refine K_seq ?_
    refine K_region ?_
    refine KV (R_loadW ty42 1 rfl rfl rfl rfl) rfl ?_
    refine K_call c15 rfl rfl (few_spec a _ _ _ V1 (ha.mono hv1)) ?_
    rintro _ V2 hv2 rfl
    refine KV (R_notP rfl) rfl ?_
    refine KV (R_move rfl) rfl ?_
    refine K_split ?_ ?_
    ·
      intro h17
      refine K_gno rfl rfl rfl rfl ?_
      refine K_gno rfl rfl rfl rfl ?_
      refine K_gno rfl rfl rfl rfl ?_
      refine KV (R_pickT rfl rfl) rfl ?_
      refine K_nil ?_
      refine Q_then ?_
      refine K_ifT rfl ?_
      refine K_seq ?_
      refine K_region ?_
      refine KV (R_assign rfl) rfl ?_
      refine K_nil ?_
      refine Q_then ?_
      refine K_ret ?_
      refine Q_then_ret ?_
      refine results_gen (rs := [.tmp 6]) (vs := [_]) rfl ⟨rfl, trivial⟩ ?_
      first | rfl | exact congrArg Value.bool (decide_eq_true rfl) | exact congrArg Value.bool (by simp)
    ·
      intro h17
      have hfa := Decidable.not_not.1 h17
      refine K_gyes rfl rfl ?_
      refine KV (R_loadW ty42 0 rfl rfl rfl rfl) rfl ?_
      refine K_gyes rfl rfl ?_
      refine K_call c15 rfl rfl (few_spec b _ _ _ V2 (hb.mono (hv1.trans (hv2)))) ?_
      rintro _ V3 hv3 rfl
      refine K_gyes rfl rfl ?_
      refine KV (R_notP rfl) rfl ?_
      refine KV (R_pickF rfl rfl) rfl ?_
      refine K_nil ?_
      refine Q_then ?_
      refine K_if rfl (fun h21 => ?_) (fun h21 => ?_)
      ·
        refine K_seq ?_
        refine K_region ?_
        refine KV (R_assign rfl) rfl ?_
        refine K_nil ?_
        refine Q_then ?_
        refine K_ret ?_
        refine Q_then_ret ?_
        refine results_gen (rs := [.tmp 6]) (vs := [_]) rfl ⟨rfl, trivial⟩ ?_
        first | rfl | exact congrArg Value.bool (decide_eq_true rfl) | exact congrArg Value.bool (by simp)
      ·
        have hfb := Decidable.not_not.1 h21
        have hs : a.states + b.states ≤ 256 := by omega
        have hu : a.rules.length + b.rules.length ≤ 65536 := by omega
        have hu2 : a.rules.length * b.rules.length ≤ 65536 := Nat.le_trans (Nat.mul_le_mul hfa.2.2.1 hfb.2.2.1) (by decide)
        have hff : a.final.length * b.final.length ≤ 1048576 := Nat.le_trans (Nat.mul_le_mul hfa.2.2.2 hfb.2.2.2) (by decide)
        have hs2 : twoErr a b = 0 → a.states * b.states ≤ 256 := fun h => by
          obtain ⟨z1, z2, _⟩ := twoErr_zero h
          have s1 := (AuOk.of z1).st
          have s2 := (AuOk.of z2).st
          have := Int.mul_le_mul hfa.2.1 hfb.2.1 s2.1 (by decide)
          omega
        refine K_skip ?_
        refine Q_then ?_
        refine K_seq ?_
        refine K_region ?_
        refine KV (R_loadW ty42 1 rfl rfl rfl rfl) rfl ?_
        refine K_call c17 rfl rfl (to_spec a _ _ _ V3 (ha.mono (hv1.trans (hv2.trans (hv3))))) ?_
        rintro _ V4 hv4 ⟨p1, p2, p3, rfl, hp⟩
        obtain ⟨yr, yrc, rfl⟩ := hp.r.shape
        obtain ⟨yf, yfc, rfl⟩ := hp.f.shape
        obtain ⟨yu, yuc, rfl⟩ := hp.ushape
        refine KA (A_alloc z50) rfl fun b7 => ?_
        refine K_storeW ty50 0 rfl rfl rfl rfl rfl rfl rfl ?_
        refine K_nil ?_
        refine Q_then ?_
        refine K_seq ?_
        refine K_region ?_
        refine KV (R_loadW ty50 0 rfl rfl rfl rfl) rfl ?_
        refine K_callO (first := []) [] _ (List.Perm.refl _) c2037 rfl rfl rfl (nclone_spec a _ _ _ V4 hp) ?_
        rintro _ V5 q25 hv5 ⟨⟨vr, ua, uc, fa, fc, pc, rfl, hcr, hps, rfl⟩, _⟩
        obtain ⟨cra, crc, rfl⟩ := hcr.shape
        have hpc : pc.length = a.rules.length := by rw [← hps]; simp
        dsimp only [List.cons_append, List.nil_append]
        refine KA (A_alloc z50) rfl fun b8 => ?_
        refine K_storeW ty50 0 rfl rfl rfl rfl rfl rfl rfl ?_
        refine K_nil ?_
        refine KQ_front 3 rfl ?_
        try dsimp only [List.eraseIdx]
        refine KQ_front 3 rfl ?_
        try dsimp only [List.eraseIdx]
        refine KQ_front 3 rfl ?_
        try dsimp only [List.eraseIdx]
        refine Q_then ?_
        refine K_seq ?_
        refine K_seq ?_
        refine K_regionD (fin := false) (R := [0, 1, 4, 5, 2, 3, 6, 7, 8, 9, 10, 11, 12, 13]) (by kernel_rfl) mixed (.cons _ (.cons _ (.cons _ (.cons_cons _ (.cons_cons _ (.cons_cons _ (.cons_cons _ (List.nil_sublist _)))))))) ?_
        refine D_val rfl rfl rfl (R_loadW ty50 1 rfl rfl rfl rfl) ?_
        refine D_val rfl rfl rfl (R_loadW ty42 2 rfl rfl rfl rfl) ?_
        refine D_val rfl rfl rfl (R_loadW ty42 3 rfl rfl rfl rfl) ?_
        refine D_val rfl rfl rfl (R_loadW ty42 2 rfl rfl rfl rfl) ?_
        refine D_call rfl rfl c17 rfl ⟨⟨3, rfl⟩, ⟨4, rfl⟩, ⟨5, rfl⟩, ⟨6, rfl⟩, trivial⟩ (to_spec b _ _ _ V5 (hb.mono (hv1.trans (hv2.trans (hv3.trans (hv4.trans (hv5))))))) ?_
        rintro _ V6 hv6 ⟨q1, q2, q3, rfl, hq⟩
        obtain ⟨ur, urc, rfl⟩ := hq.r.shape
        obtain ⟨uf, ufc, rfl⟩ := hq.f.shape
        obtain ⟨uu, uuc, rfl⟩ := hq.ushape
        refine D_call rfl rfl c2022 rfl ⟨⟨3, rfl⟩, ⟨4, rfl⟩, ⟨5, rfl⟩, ⟨6, rfl⟩, trivial⟩ (nequal_spec a b _ _ _ _ _ _ V6 (hp.mono (hv5.trans (hv6))) hq) ?_
        rintro _ V7 hv7 rfl
        refine D_call rfl rfl c30 rfl ⟨⟨3, rfl⟩, ⟨4, rfl⟩, ⟨5, rfl⟩, ⟨6, rfl⟩, trivial⟩ (rsame_au_spec a b _ _ _ _ _ _ V7 (ha.mono (hv1.trans (hv2.trans (hv3.trans (hv4.trans (hv5.trans (hv6.trans (hv7)))))))) (hb.mono (hv1.trans (hv2.trans (hv3.trans (hv4.trans (hv5.trans (hv6.trans (hv7)))))))) (by omega) (by omega) hla (by omega) (by omega) hlb (by omega) (by omega)) ?_
        rintro _ V8 hv8 rfl
        refine D_val rfl rfl rfl (R_boolNe (by kernel_rfl) rfl rfl) ?_
        refine D_val rfl rfl rfl (R_move rfl) ?_
        refine D_splitB ?_ ?_
        ·
          intro h34
          exact absurd h34 (by simp)
        ·
          intro h34
          refine D_val rfl rfl rfl (R_loadW ty50 0 rfl rfl rfl rfl) ?_
          refine D_val rfl rfl rfl (R_loadW ty50 1 rfl rfl rfl rfl) ?_
          refine D_callO (first := []) [_, _, _] _ rfl rfl c2022 rfl rfl (List.Perm.refl _) ⟨⟨0, rfl⟩, ⟨1, rfl⟩, ⟨2, rfl⟩, ⟨3, rfl⟩, trivial⟩ (Sat.lends [row (.slice ua pc.length uc) T85 3 pc.length (cellsP pc), row (.slice fa a.final.length fc) T3 1 a.final.length (ints a.final), many (rowsFrom T3 pc)] fun H2 hle hh => nequal_spec a a _ _ _ _ _ _ H2 (rep_of_holds (hcr.mono ((hv6.trans (hv7.trans (hv8))).trans hle)) hps hab hh) (hp.mono ((hv5.trans (hv6.trans (hv7.trans (hv8)))).trans hle))) ?_
          rintro _ V9 q37 hv9 ⟨rfl, rfl, rfl⟩
          dsimp only [List.cons_append, List.nil_append]
          rw [sameM_self]
          refine D_val rfl rfl rfl (R_not rfl) ?_
          refine D_val rfl rfl rfl (R_pickF rfl rfl) ?_
          refine D_done ?_
          refine Q_then ?_
          refine K_ifB rfl (fun h39 => ?_) (fun h39 => ?_)
          ·
            cases h39
          ·
            refine K_skip ?_
            refine Q_then ?_
            refine K_seq ?_
            refine K_region ?_
            refine KV (R_loadW ty50 4 rfl rfl rfl rfl) rfl ?_
            refine K_call c2020 rfl rfl (normalize_spec a _ _ _ V9 (hp.mono (hv5.trans (hv6.trans (hv7.trans (hv8)))))) ?_
            rintro _ V10 hv10 _
            refine K_nil ?_
            refine Q_then ?_
            refine K_seq ?_
            refine K_region ?_
            refine KV (R_loadW ty50 4 rfl rfl rfl rfl) rfl ?_
            refine K_call c2029 rfl rfl (ntrim_spec a _ _ _ V10 (hp.mono (hv5.trans (hv6.trans (hv7.trans (hv8.trans (hv10))))))) ?_
            rintro _ V11 hv11 _
            refine K_nil ?_
            refine Q_then ?_
            refine K_seq ?_
            refine K_regionD (fin := false) (R := [0, 1, 2, 3]) (by kernel_rfl) mixed (.cons_cons _ (.cons_cons _ (.cons_cons _ (.cons_cons _ (.cons_cons _ (.cons_cons _ (.cons_cons _ (List.nil_sublist _)))))))) ?_
            refine D_val rfl rfl rfl (R_loadW ty50 4 rfl rfl rfl rfl) ?_
            refine D_val rfl rfl rfl (R_loadW ty42 5 rfl rfl rfl rfl) ?_
            refine D_call rfl rfl c17 rfl ⟨⟨0, rfl⟩, ⟨1, rfl⟩, ⟨2, rfl⟩, ⟨3, rfl⟩, ⟨4, rfl⟩, ⟨5, rfl⟩, ⟨6, rfl⟩, trivial⟩ (to_spec b _ _ _ V11 (hb.mono (hv1.trans (hv2.trans (hv3.trans (hv4.trans (hv5.trans (hv6.trans (hv7.trans (hv8.trans (hv10.trans (hv11)))))))))))) ?_
            rintro _ V12 hv12 ⟨i1, i2, i3, rfl, hi⟩
            refine D_call rfl rfl c2032 rfl ⟨⟨0, rfl⟩, ⟨1, rfl⟩, ⟨2, rfl⟩, ⟨3, rfl⟩, ⟨4, rfl⟩, ⟨5, rfl⟩, ⟨6, rfl⟩, trivial⟩ (inter_spec a b _ _ _ _ _ _ V12 (hp.mono (hv5.trans (hv6.trans (hv7.trans (hv8.trans (hv10.trans (hv11.trans (hv12)))))))) hi hs2 hu2 hff) ?_
            rintro _ V13 hv13 _
            refine D_done ?_
            refine Q_then ?_
            refine K_seq ?_
            refine K_regionD (fin := false) (R := [0, 1, 2, 3]) (by kernel_rfl) mixed (.cons_cons _ (.cons_cons _ (.cons_cons _ (.cons_cons _ (.cons_cons _ (.cons_cons _ (.cons_cons _ (List.nil_sublist _)))))))) ?_
            refine D_val rfl rfl rfl (R_loadW ty50 4 rfl rfl rfl rfl) ?_
            refine D_val rfl rfl rfl (R_loadW ty42 5 rfl rfl rfl rfl) ?_
            refine D_call rfl rfl c17 rfl ⟨⟨0, rfl⟩, ⟨1, rfl⟩, ⟨2, rfl⟩, ⟨3, rfl⟩, ⟨4, rfl⟩, ⟨5, rfl⟩, ⟨6, rfl⟩, trivial⟩ (to_spec b _ _ _ V13 (hb.mono (hv1.trans (hv2.trans (hv3.trans (hv4.trans (hv5.trans (hv6.trans (hv7.trans (hv8.trans (hv10.trans (hv11.trans (hv12.trans (hv13)))))))))))))) ?_
            rintro _ V14 hv14 ⟨j1, j2, j3, rfl, hj⟩
            refine D_call rfl rfl c2031 rfl ⟨⟨0, rfl⟩, ⟨1, rfl⟩, ⟨2, rfl⟩, ⟨3, rfl⟩, ⟨4, rfl⟩, ⟨5, rfl⟩, ⟨6, rfl⟩, trivial⟩ (union_spec a b _ _ _ _ _ _ V14 (hp.mono (hv5.trans (hv6.trans (hv7.trans (hv8.trans (hv10.trans (hv11.trans (hv12.trans (hv13.trans (hv14)))))))))) hj hs hu) ?_
            rintro _ V15 hv15 _
            refine D_done ?_
            refine Q_then ?_
            refine K_seq ?_
            refine K_seq ?_
            refine K_region ?_
            refine KV (R_assign rfl) rfl ?_
            refine K_nil ?_
            refine Q_then ?_
            refine K_block ?_
            refine K_loopD (G := Nat × (List (Rl × Value))) [9, 10, 52, 53, 54, 55, 56, 57, 58, 59, 60, 61, 62, 63, 64, 65, 66, 67, 68, 69, 70, 71, 72, 73, 74, 75, 76, 77, 78, 79, 80, 81, 82, 83, 84, 85, 86, 87, 88, 89, 90, 91, 92, 93, 94, 95, 96, 97, 98, 99, 100, 101] (fun g => [(9, .int .i64 (g.1 : Int))]) (fun hl g => ((hl.set 0 (row (.slice ua pc.length uc) T85 3 pc.length (cellsP g.2))).set 2 (many (rowsFrom T3 g.2)))) (fun g => V15) (fun g => (g.1 ≤ pc.length) ∧ (g.2.length = pc.length) ∧ (∀ p ∈ g.2, p.1.args.length ≤ 1048576)) (fun g => pc.length - g.1) (0, pc) ⟨Nat.zero_le _, rfl, fun p hp => hla p.1 (by rw [← hps]; exact List.mem_map.2 ⟨p, hp, rfl⟩)⟩ ⟨rfl, trivial⟩ (by simp only [args0, Nat.reduceAdd, del, memN, beqN, Nat.reduceBEq, cond_true, cond_false]; rfl) rfl rfl ?_
            rintro ⟨k, ps⟩ ⟨hk, hpl, hpb⟩
            dsimp only at hk hpl hpb
            dsimp only [List.set, List.cons_append, List.nil_append]
            refine K_seq ?_
            refine K_seq ?_
            refine K_region ?_
            refine KV (R_move rfl) rfl ?_
            refine KV (R_fieldAddr 2 fd50_2 rfl) rfl ?_
            refine KV (R_loadO ty48 3 rfl rfl rfl rfl (fun _ => rfl) rfl) rfl ?_
            refine KV (R_len sl48 rfl) rfl ?_
            refine KV (R_cmp rfl rfl rfl) rfl ?_
            refine K_nil ?_
            refine Q_then ?_
            refine K_if rfl (fun h56 => ?_) (fun h56 => ?_)
            ·
              have hk' : k < pc.length := by omega
              have hk2 : k < ps.length := by omega
              have hpbk := hpb _ (List.getElem_mem hk2)
              refine K_skip ?_
              refine Q_then ?_
              refine K_seq ?_
              refine K_block ?_
              refine K_seq ?_
              refine KC_front 0 rfl ?_
              try dsimp only [List.eraseIdx]
              refine KC_openRow (fun _ h _ => absurd h (by omega)) (fun gb cap tail h1 h2 h3 h4 h5 => ?_)
              try dsimp only [List.eraseIdx]
              cases h1
              skip
              refine K_regionD (fin := true) (R := [0, 1, 2, 3, 4, 5, 6, 7, 8, 9, 10, 11, 12, 13]) (by kernel_rfl) mixed (.cons_cons _ (.cons_cons _ (.cons_cons _ (.cons_cons _ (.cons_cons _ (.cons_cons _ (.cons_cons _ (List.nil_sublist _)))))))) ?_
              refine D_val rfl rfl rfl (R_fieldAddr 2 fd50_2 rfl) ?_
              refine D_val rfl rfl rfl (R_loadO ty48 3 rfl rfl rfl rfl (fun _ => rfl) rfl) ?_
              refine D_val rfl rfl rfl (R_move rfl) ?_
              refine D_val rfl rfl rfl (R_fieldAddr 2 fd50_2 rfl) ?_
              refine D_val rfl rfl rfl (R_loadO ty48 3 rfl rfl rfl rfl (fun _ => rfl) rfl) ?_
              refine D_val rfl rfl rfl (R_move rfl) ?_
              refine D_val rfl rfl rfl (R_indexN sl48 ty85 rfl rfl (by omega)) ?_
              refine D_val rfl rfl rfl (R_fieldAddr 2 fd85_2 rfl) ?_
              refine D_val rfl rfl rfl (R_loadC ty3 0 rfl rfl (flat_cell (f := cellRV) (j := 2) cellRV_len hk2 (by omega) tail rfl)) ?_
              refine D_val rfl rfl rfl (R_move rfl) ?_
              refine D_val rfl rfl rfl (R_arith rfl rfl (.inl ⟨rfl, rfl⟩)) ?_
              refine D_val rfl rfl rfl (R_indexN sl48 ty85 rfl rfl (by omega)) ?_
              refine D_val rfl rfl rfl (R_fieldAddr 2 fd85_2 rfl) ?_
              refine D_lastStoreE ty3 0 rfl rfl rfl rfl rfl rfl (show 0 + k * 3 + 2 + 1 ≤ _ from by rw [List.size_toArray, List.length_append, cellsP_len]; omega) rfl (flat_set (f := cellRV) (j := 2) (q := ((⟨ps[k].1.sym, ps[k].1.args, (IntKind.i64.wrap (ps[k].1.to + bn))⟩ : Rl), ps[k].2)) cellRV_len hk2 (by decide) (by omega) tail rfl rfl) ?_
              refine Q_then ?_
              refine K_seq ?_
              refine K_region ?_
              refine KV (R_assign rfl) rfl ?_
              refine K_nil ?_
              refine Q_then ?_
              refine K_block ?_
              refine KC_front 2 rfl ?_
              try dsimp only [List.eraseIdx]
              refine KC_takeAt hk2 ?_
              refine KC_shape 0 rfl ?_
              rintro ⟨xa, xc, hxe⟩
              rw [hxe]
              have hB1 : ∀ off, off = k * 3 + 1 → ((ps.take k ++ ((⟨ps[k].1.sym, ps[k].1.args, (IntKind.i64.wrap (ps[k].1.to + bn))⟩ : Rl), Value.slice xa ps[k].1.args.length xc) :: ps.drop (k + 1)).flatMap cellRV ++ tail).toArray[off]? = some (.slice xa ps[k].1.args.length xc) := fun off ho => flat_cell (f := cellRV) (j := 1) cellRV_len (by rw [mid_len hk2]; exact hk2) ho tail (by rw [mid_get hk2]; rfl)
              refine K_loopD (G := Nat × List Int) [10, 72, 73, 74, 75, 76, 77, 78, 79, 80, 81, 82, 83, 84, 85, 86, 87, 88, 89, 90, 91, 92, 93, 94, 95, 96, 97, 98, 99, 100, 101] (fun g => [(10, .int .i64 (g.1 : Int))]) (fun hl g => (hl.set 0 (row (.slice xa ps[k].1.args.length xc) T3 1 ps[k].1.args.length (ints g.2)))) (fun g => V15) (fun g => (g.1 ≤ ps[k].1.args.length) ∧ (g.2.length = ps[k].1.args.length)) (fun g => ps[k].1.args.length - g.1) (0, ps[k].1.args) ⟨Nat.zero_le _, rfl⟩ ⟨rfl, trivial⟩ (by simp only [args0, Nat.reduceAdd, del, memN, beqN, Nat.reduceBEq, cond_true, cond_false]; rfl) rfl rfl ?_
              rintro ⟨j, xs⟩ ⟨hj, hxs⟩
              dsimp only at hj hxs
              dsimp only [List.set, List.cons_append, List.nil_append]
              refine K_seq ?_
              refine K_seq ?_
              refine K_region ?_
              refine KV (R_move rfl) rfl ?_
              refine KV (R_fieldAddr 2 fd50_2 rfl) rfl ?_
              refine KV (R_loadO ty48 4 rfl rfl rfl rfl (fun _ => rfl) rfl) rfl ?_
              refine KV (R_move rfl) rfl ?_
              refine KV (R_indexN sl48 ty85 rfl rfl (by omega)) rfl ?_
              refine KV (R_fieldAddr 1 fd85_1 rfl) rfl ?_
              refine KV (R_loadC ty25 2 rfl rfl (hB1 _ (by omega))) rfl ?_
              refine KV (R_len sl25 rfl) rfl ?_
              refine KV (R_cmp rfl rfl rfl) rfl ?_
              refine K_nil ?_
              refine Q_then ?_
              refine K_if rfl (fun h80 => ?_) (fun h80 => ?_)
              ·
                have hj' : j < ps[k].1.args.length := by omega
                refine K_skip ?_
                refine Q_then ?_
                refine K_seq ?_
                refine K_block ?_
                refine KC_front 0 rfl ?_
                try dsimp only [List.eraseIdx]
                refine KC_openRow (fun _ h _ => absurd h (by omega)) (fun gc cap2 tail2 e1 e2 e3 e4 e5 => ?_)
                try dsimp only [List.eraseIdx]
                cases e1
                rw [ints_flat xs]
                refine K_regionD (fin := true) (R := [0, 1, 2, 3, 4, 5, 6, 7, 8, 9, 10, 11, 12, 13, 14, 15, 16, 17, 18, 19]) (by kernel_rfl) mixed (.cons_cons _ (.cons_cons _ (.cons_cons _ (.cons_cons _ (.cons_cons _ (.cons_cons _ (.cons_cons _ (.cons_cons _ (List.nil_sublist _))))))))) ?_
                refine D_val rfl rfl rfl (R_fieldAddr 2 fd50_2 rfl) ?_
                refine D_val rfl rfl rfl (R_loadO ty48 4 rfl rfl rfl rfl (fun _ => rfl) rfl) ?_
                refine D_val rfl rfl rfl (R_move rfl) ?_
                refine D_val rfl rfl rfl (R_indexN sl48 ty85 rfl rfl (by omega)) ?_
                refine D_val rfl rfl rfl (R_fieldAddr 1 fd85_1 rfl) ?_
                refine D_val rfl rfl rfl (R_loadC ty25 2 rfl rfl (hB1 _ (by omega))) ?_
                refine D_val rfl rfl rfl (R_move rfl) ?_
                refine D_val rfl rfl rfl (R_fieldAddr 2 fd50_2 rfl) ?_
                refine D_val rfl rfl rfl (R_loadO ty48 4 rfl rfl rfl rfl (fun _ => rfl) rfl) ?_
                refine D_val rfl rfl rfl (R_move rfl) ?_
                refine D_val rfl rfl rfl (R_indexN sl48 ty85 rfl rfl (by omega)) ?_
                refine D_val rfl rfl rfl (R_fieldAddr 1 fd85_1 rfl) ?_
                refine D_val rfl rfl rfl (R_loadC ty25 2 rfl rfl (hB1 _ (by omega))) ?_
                refine D_val rfl rfl rfl (R_move rfl) ?_
                refine D_val rfl rfl rfl (R_indexN sl25 ty3 rfl rfl (by omega)) ?_
                refine D_val rfl rfl rfl (R_loadC ty3 0 rfl rfl (flat_cell (f := cellI) (k := j) (j := 0) cellI_len (by omega) (by omega) tail2 rfl)) ?_
                refine D_val rfl rfl rfl (R_move rfl) ?_
                refine D_val rfl rfl rfl (R_arith rfl rfl (.inl ⟨rfl, rfl⟩)) ?_
                refine D_val rfl rfl rfl (R_indexN sl25 ty3 rfl rfl (by omega)) ?_
                refine D_lastStoreE ty3 0 rfl rfl rfl rfl rfl rfl (show 0 + j * 1 + 1 ≤ _ from by rw [List.size_toArray, List.length_append, flat_lenN cellI_len]; omega) rfl (flat_set (f := cellI) (k := j) (j := 0) (q := (IntKind.i64.wrap (xs[j] + bn))) cellI_len (by omega) (by decide) (by omega) tail2 rfl rfl) ?_
                refine KQ_front 0 rfl ?_
                try dsimp only [List.eraseIdx]
                refine KQ_shutRow (sz := 1) (k := ps[k].1.args.length) (xs := ints (xs.take j ++ (IntKind.i64.wrap (xs[j] + bn)) :: xs.drop (j + 1))) e2 e3 (by rw [ints_len, mid_len (by omega)]; omega) (by rw [List.size_toArray, List.length_append, ← ints_flat, ints_len, mid_len (by omega)]; rw [List.length_append, ints_len] at e5; exact e5) (by rw [← ints_flat]; exact List.take_left' (by rw [ints_len, mid_len (by omega)]; omega)) ?_
                try dsimp only [List.eraseIdx, List.set]
                refine Q_block ?_
                refine Q_then ?_
                refine K_region ?_
                refine KV (R_move rfl) rfl ?_
                refine KV (R_add rfl rfl (by omega)) rfl ?_
                refine KV (R_assign rfl) rfl ?_
                refine K_nil ?_
                refine Q_nextD (j + 1, (xs.take j ++ (IntKind.i64.wrap (xs[j] + bn)) :: xs.drop (j + 1))) ⟨hj', by rw [mid_len (by omega)]; exact hxs⟩ (by (try dsimp only); omega) ⟨rfl, trivial⟩ rfl rfl rfl
              ·
                have hj' : j = ps[k].1.args.length := by omega
                refine K_exit ?_
                refine Q_then_exit ?_
                refine Q_then_exit ?_
                refine Q_block_exit ?_
                refine Q_block ?_
                refine Q_then ?_
                refine K_region ?_
                refine KV (R_move rfl) rfl ?_
                refine KV (R_add rfl rfl (by omega)) rfl ?_
                refine KV (R_assign rfl) rfl ?_
                refine K_nil ?_
                have hrowe : row (.slice xa ps[k].1.args.length xc) T3 1 ps[k].1.args.length (ints xs) = row ((⟨ps[k].1.sym, xs, (IntKind.i64.wrap (ps[k].1.to + bn))⟩ : Rl), Value.slice xa ps[k].1.args.length xc).2 T3 1 ((⟨ps[k].1.sym, xs, (IntKind.i64.wrap (ps[k].1.to + bn))⟩ : Rl), Value.slice xa ps[k].1.args.length xc).1.args.length (ints ((⟨ps[k].1.sym, xs, (IntKind.i64.wrap (ps[k].1.to + bn))⟩ : Rl), Value.slice xa ps[k].1.args.length xc).1.args) := by
                  show _ = row _ T3 1 xs.length (ints xs)
                  rw [hxs]
                rw [hrowe]
                refine KQ_front 1 rfl ?_
                try dsimp only [List.eraseIdx]
                refine KQ_front 1 rfl ?_
                try dsimp only [List.eraseIdx]
                refine KQ_putrow (ps.take k) (ps.drop (k + 1)) ((⟨ps[k].1.sym, xs, (IntKind.i64.wrap (ps[k].1.to + bn))⟩ : Rl), Value.slice xa ps[k].1.args.length xc) ?_
                skip
                refine KQ_front 1 rfl ?_
                try dsimp only [List.eraseIdx]
                refine KQ_shutRow (sz := 3) (k := pc.length) (xs := cellsP (ps.take k ++ ((⟨ps[k].1.sym, xs, (IntKind.i64.wrap (ps[k].1.to + bn))⟩ : Rl), Value.slice xa ps[k].1.args.length xc) :: ps.drop (k + 1))) h2 h3 (by rw [cellsP_len, mid_len hk2]; omega) (by rw [List.size_toArray, List.length_append, flat_lenN cellRV_len, mid_len hk2]; rw [List.length_append, cellsP_len] at h5; exact h5) ((List.take_left' (by rw [flat_lenN cellRV_len, mid_len hk2]; omega)).trans (cellsP_mid _ _ _ _ _ _ _)) ?_
                try dsimp only [List.eraseIdx, List.set]
                refine KQ_sel [0, 1, 0, 0, 0, 0, 0] rfl ?_
                refine Q_nextD (k + 1, ps.take k ++ ((⟨ps[k].1.sym, xs, (IntKind.i64.wrap (ps[k].1.to + bn))⟩ : Rl), Value.slice xa ps[k].1.args.length xc) :: ps.drop (k + 1)) ⟨hk', by rw [mid_len hk2]; exact hpl, fun p hp => (mid_mem hp).elim (fun e => by rw [e]; show xs.length ≤ _; omega) (hpb p)⟩ (by (try dsimp only); omega) ⟨rfl, trivial⟩ rfl rfl rfl
            ·
              have hk' : k = pc.length := by omega
              refine K_exit ?_
              refine Q_then_exit ?_
              refine Q_then_exit ?_
              refine Q_block_exit ?_
              refine Q_then ?_
              refine K_seq ?_
              refine K_seq ?_
              refine K_region ?_
              refine KV (R_assign rfl) rfl ?_
              refine K_nil ?_
              refine Q_then ?_
              refine K_block ?_
              refine K_loopD (G := Nat × View) [6, 11, 102, 103, 104, 105, 106, 107, 108, 109, 110, 111, 112, 113, 114, 115, 116, 117, 118, 119, 120, 121, 122, 123, 124, 125, 126, 127, 128, 129, 130, 131, 132, 133, 134, 135, 136, 137] (fun g => [(11, .int .i64 (g.1 : Int))]) (fun hl g => hl) (fun g => g.2) (fun g => (g.1 ≤ a.rules.length) ∧ (VLe V15 g.2)) (fun g => a.rules.length - g.1) (0, V15) ⟨Nat.zero_le _, VLe.refl _⟩ ⟨rfl, trivial⟩ (by simp only [args0, Nat.reduceAdd, del, memN, beqN, Nat.reduceBEq, cond_true, cond_false]; rfl) rfl rfl ?_
              rintro ⟨k, V⟩ ⟨hk, hV⟩
              dsimp only at hk hV
              dsimp only [List.set, List.cons_append, List.nil_append]
              refine K_seq ?_
              refine K_seq ?_
              refine K_region ?_
              refine KV (R_move rfl) rfl ?_
              refine KV (R_fieldAddr 2 fd50_2 rfl) rfl ?_
              refine KV (R_loadO ty48 4 rfl rfl rfl rfl (fun _ => rfl) rfl) rfl ?_
              refine KV (R_len sl48 rfl) rfl ?_
              refine KV (R_cmp rfl rfl rfl) rfl ?_
              refine K_nil ?_
              refine Q_then ?_
              refine K_if rfl (fun h106 => ?_) (fun h106 => ?_)
              ·
                have hk' : k < a.rules.length := by omega
                obtain ⟨yb, yo, yq, yx, yy, ye, yc, ys, yt, yw, yl⟩ := (hp.mono ((hv5.trans (hv6.trans (hv7.trans (hv8.trans (hv10.trans (hv11.trans (hv12.trans (hv13.trans (hv14.trans (hv15)))))))))).trans hV)).rule hk'
                cases ye
                obtain ⟨xb, xo, xq, xx, xy, xe, xc, xs, xt, xw, xl⟩ := (ha.mono ((hv1.trans (hv2.trans (hv3.trans (hv4.trans (hv5.trans (hv6.trans (hv7.trans (hv8.trans (hv10.trans (hv11.trans (hv12.trans (hv13.trans (hv14.trans (hv15)))))))))))))).trans hV)).rule hk'
                cases xe
                refine K_skip ?_
                refine Q_then ?_
                refine K_seq ?_
                refine K_block ?_
                refine K_seq ?_
                refine K_regionD (fin := false) (R := [0, 1, 2, 3, 4, 5, 6, 7, 8, 9, 10, 11, 12, 13, 14, 15, 16, 17, 18, 19, 20, 21, 22, 23, 24, 25, 26, 27, 28]) (by kernel_rfl) mixed (.cons_cons _ (.cons_cons _ (.cons_cons _ (.cons_cons _ (.cons_cons _ (.cons_cons _ (.cons_cons _ (List.nil_sublist _)))))))) ?_
                refine D_val rfl rfl rfl (R_fieldAddr 2 fd50_2 rfl) ?_
                refine D_val rfl rfl rfl (R_loadO ty48 4 rfl rfl rfl rfl (fun _ => rfl) rfl) ?_
                refine D_val rfl rfl rfl (R_move rfl) ?_
                refine D_val rfl rfl rfl (R_indexN sl48 ty85 rfl rfl (by omega)) ?_
                refine D_val rfl rfl rfl (R_fieldAddr 2 fd85_2 rfl) ?_
                refine D_val rfl rfl rfl (R_loadH ty3 rfl (At.one (j := 2) yc rfl) rfl (fun _ => rfl) rfl) ?_
                refine D_val rfl rfl rfl (R_fieldAddr 2 fd42_2 rfl) ?_
                refine D_val rfl rfl rfl (R_loadO ty40 6 rfl rfl rfl rfl (fun _ => rfl) rfl) ?_
                refine D_val rfl rfl rfl (R_move rfl) ?_
                refine D_val rfl rfl rfl (R_indexN sl40 ty100 rfl rfl (by omega)) ?_
                refine D_val rfl rfl rfl (R_fieldAddr 2 fd100_2 rfl) ?_
                refine D_val rfl rfl rfl (R_loadH ty3 rfl (At.one (j := 2) xc rfl) rfl (fun _ => rfl) rfl) ?_
                refine D_val rfl rfl rfl (R_cmp rfl rfl rfl) ?_
                refine D_val rfl rfl rfl (R_move rfl) ?_
                refine D_split ?_ ?_
                ·
                  intro h122
                  exact absurd rfl h122
                ·
                  intro h122
                  refine D_val rfl rfl rfl (R_fieldAddr 2 fd50_2 rfl) ?_
                  refine D_val rfl rfl rfl (R_loadO ty48 4 rfl rfl rfl rfl (fun _ => rfl) rfl) ?_
                  refine D_val rfl rfl rfl (R_move rfl) ?_
                  refine D_val rfl rfl rfl (R_indexN sl48 ty85 rfl rfl (by omega)) ?_
                  refine D_val rfl rfl rfl (R_fieldAddr 1 fd85_1 rfl) ?_
                  refine D_val rfl rfl rfl (R_loadH ty25 rfl (At.one (j := 1) yc rfl) rfl (fun _ => rfl) rfl) ?_
                  refine D_val rfl rfl rfl (R_fieldAddr 2 fd42_2 rfl) ?_
                  refine D_val rfl rfl rfl (R_loadO ty40 6 rfl rfl rfl rfl (fun _ => rfl) rfl) ?_
                  refine D_val rfl rfl rfl (R_move rfl) ?_
                  refine D_val rfl rfl rfl (R_indexN sl40 ty100 rfl rfl (by omega)) ?_
                  refine D_val rfl rfl rfl (R_fieldAddr 1 fd100_1 rfl) ?_
                  refine D_val rfl rfl rfl (R_loadH ty25 rfl (At.one (j := 1) xc rfl) rfl (fun _ => rfl) rfl) ?_
                  refine D_call rfl rfl c60 rfl ⟨⟨0, rfl⟩, ⟨1, rfl⟩, ⟨2, rfl⟩, ⟨3, rfl⟩, ⟨4, rfl⟩, ⟨5, rfl⟩, ⟨6, rfl⟩, trivial⟩ (cmpl_spec a.rules[k].args a.rules[k].args _ _ V ys xs yl xl) ?_
                  rintro _ V16 hv16 rfl
                  rw [cmpL_self]
                  refine D_val rfl rfl rfl (R_cmp rfl rfl rfl) ?_
                  refine D_val rfl rfl rfl (R_pickF rfl rfl) ?_
                  refine D_done ?_
                  refine Q_then ?_
                  refine K_if rfl (fun h137 => ?_) (fun h137 => ?_)
                  ·
                    exact absurd rfl h137
                  ·
                    refine K_skip ?_
                    refine Q_block ?_
                    refine Q_then ?_
                    refine K_region ?_
                    refine KV (R_move rfl) rfl ?_
                    refine KV (R_add rfl rfl (by omega)) rfl ?_
                    refine KV (R_assign rfl) rfl ?_
                    refine K_nil ?_
                    refine Q_nextD (k + 1, V16) ⟨hk', hV.trans hv16⟩ (by (try dsimp only); omega) ⟨rfl, trivial⟩ rfl rfl rfl
              ·
                have hk' : k = a.rules.length := by omega
                refine K_exit ?_
                refine Q_then_exit ?_
                refine Q_then_exit ?_
                refine Q_block_exit ?_
                refine Q_then ?_
                refine K_seq ?_
                refine K_region ?_
                refine KV (R_fieldAddr 2 fd50_2 rfl) rfl ?_
                refine KV (R_loadO ty48 4 rfl rfl rfl rfl (fun _ => rfl) rfl) rfl ?_
                refine KV (R_len sl48 rfl) rfl ?_
                refine KV (R_fieldAddr 2 fd42_2 rfl) rfl ?_
                refine KV (R_loadO ty40 6 rfl rfl rfl rfl (fun _ => rfl) rfl) rfl ?_
                refine KV (R_len sl40 rfl) rfl ?_
                refine KV (R_cmp rfl rfl rfl) rfl ?_
                refine KV (R_move rfl) rfl ?_
                refine K_split ?_ ?_
                ·
                  intro h145
                  refine K_gyes rfl rfl ?_
                  refine KV (R_fieldAddr 3 fd50_3 rfl) rfl ?_
                  refine K_gyes rfl rfl ?_
                  refine KV (R_loadO ty25 4 rfl rfl rfl rfl (fun _ => rfl) rfl) rfl ?_
                  refine K_gyes rfl rfl ?_
                  refine KV (R_fieldAddr 3 fd42_3 rfl) rfl ?_
                  refine K_gyes rfl rfl ?_
                  refine KV (R_loadO ty25 6 rfl rfl rfl rfl (fun _ => rfl) rfl) rfl ?_
                  refine K_gyes rfl rfl ?_
                  refine K_call c60 rfl rfl (cmpl_spec a.final a.final _ _ V (hp.mono ((hv5.trans (hv6.trans (hv7.trans (hv8.trans (hv10.trans (hv11.trans (hv12.trans (hv13.trans (hv14.trans (hv15)))))))))).trans hV)).f (ha.mono ((hv1.trans (hv2.trans (hv3.trans (hv4.trans (hv5.trans (hv6.trans (hv7.trans (hv8.trans (hv10.trans (hv11.trans (hv12.trans (hv13.trans (hv14.trans (hv15)))))))))))))).trans hV)).f ha.fl ha.fl) ?_
                  rintro _ V16 hv16 rfl
                  rw [cmpL_self]
                  refine K_gyes rfl rfl ?_
                  refine KV (R_cmp rfl rfl rfl) rfl ?_
                  refine KV (R_pickT rfl rfl) rfl ?_
                  refine KV (R_assign rfl) rfl ?_
                  refine K_nil ?_
                  refine Q_then ?_
                  refine K_ret ?_
                  refine results_gen (rs := [.tmp 6]) (vs := [_]) rfl ⟨rfl, trivial⟩ ?_
                  first | rfl | exact congrArg Value.bool (decide_eq_true rfl) | exact congrArg Value.bool (by simp)
                ·
                  intro h145
                  exact absurd rfl h145
end Go.Proofs.X
