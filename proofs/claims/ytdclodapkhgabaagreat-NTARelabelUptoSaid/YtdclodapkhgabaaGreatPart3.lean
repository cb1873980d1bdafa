/-
  Part of the proof: rules for walks, contracts of the functions that the statements reach, plain laws. Own work. No statement of the seat is proved here.
-/
import Derived.Test.YtdclodapkhgabaaGreatPart2
namespace Go.Proofs.X
open Go Pal Go.Proofs
attribute [local irreducible] Pal.KO Pal.KC Pal.KQ Pal.KD

theorem inverseN_spec (a : Au) (l rk : List Int) (vr vu vf lv kv : Value) (H : View) (ha : RepAu H a vr vu vf) (hl : SI H lv l) (hk : SI H kv rk) (hll : l.length ≤ 1048576) (hkl : rk.length ≤ 1048576) (hlb : l.length * a.rules.length ≤ 65536) : Sat Tryz.prog F2024 #[.agg #[vr, .int .i64 a.states, vu, vf], lv, kv] H (fun r H' => ∃ v1 v2 v3, r = .tuple #[.agg #[v1, .int .i64 (errAu (invErr a l rk) (normA (backA a l rk))).states, v2, v3], .int .i64 (invErr a l rk)] ∧ RepAu H' (errAu (invErr a l rk) (normA (backA a l rk))) v1 v2 v3) := by
  obtain ⟨ar, arc, rfl⟩ := ha.r.shape
  obtain ⟨af, afc, rfl⟩ := ha.f.shape
  obtain ⟨au, auc, rfl⟩ := ha.ushape
  obtain ⟨la, lc, rfl⟩ := hl.shape
  obtain ⟨ka, kc, rfl⟩ := hk.shape
  have hul := ha.ul
  have hfl := ha.fl
  have hrl := ha.rl
  have hab := ha.b
  refine enterO (n := 89) (args := [.agg #[.slice ar a.ranks.length arc, .int .i64 a.states, .slice au a.rules.length auc, .slice af a.final.length afc], .slice la l.length lc, .slice ka rk.length kc]) Tryz.func34 rfl rfl rfl fun w0 => ?_
  refine K_seq ?_
  refine K_region ?_
  refine KA (A_box rfl) rfl fun b3 => ?_
  refine KA (A_alloc z50) rfl fun b6 => ?_
  refine KV (R_assign rfl) rfl ?_
  refine K_nil ?_
  refine Q_then ?_
  refine K_seq ?_
  refine K_seq ?_
  refine K_region ?_
  refine KV (R_loadW ty50 1 rfl rfl rfl rfl) rfl ?_
  refine KV (R_move rfl) rfl ?_
  refine K_call c2051 rfl rfl (turnedE_spec a rk _ _ _ _ H ha hk (by omega)) ?_
  rintro _ V1 hv1 rfl
  refine KV (R_assign rfl) rfl ?_
  refine K_nil ?_
  refine Q_then ?_
  refine K_seq ?_
  refine K_region ?_
  refine KV (R_move rfl) rfl ?_
  refine KV (R_cmp rfl rfl rfl) rfl ?_
  refine K_nil ?_
  refine Q_then ?_
  refine K_if rfl (fun hte => ?_) (fun hte => ?_)
  ·
    refine K_seq ?_
    refine K_region ?_
    refine KV (R_build z50 pl50 rfl rfl) rfl ?_
    refine KV (R_move rfl) rfl ?_
    refine K_storeW ty50 0 rfl rfl rfl rfl rfl rfl rfl ?_
    refine KV (R_assign rfl) rfl ?_
    refine K_nil ?_
    refine Q_then ?_
    refine K_ret ?_
    refine Q_then_ret ?_
    refine results_gen (rs := [.cell 6 37, .tmp 7]) (vs := [_, _]) rfl ⟨⟨_, _, _, _, _, _, 0, rfl, rfl, ty50, (fun e => by cases e), rfl, rfl⟩, ⟨rfl, trivial⟩⟩ ?_
    have hE : invErr a l rk = turnErr a rk := by unfold invErr; rw [if_pos hte]
    rw [hE, errAu_no hte]
    exact ⟨nilS, nilS, nilS, rfl, RepAu.nil _⟩
  ·
    have hte0 := Decidable.not_not.1 hte
    have hae0 : auErr a = 0 := by
      unfold turnErr at hte0
      split at hte0
      · rename_i h; exact absurd hte0 h
      · rename_i h; exact Decidable.not_not.1 h
    have hok := AuOk.of hae0
    refine K_skip ?_
    refine Q_then ?_
    refine K_seq ?_
    refine K_seq ?_
    refine K_region ?_
    refine KV (R_move rfl) rfl ?_
    refine KV (R_move rfl) rfl ?_
    refine KV (R_fieldAddr 0 fd50_0 rfl) rfl ?_
    refine KV (R_loadO ty47 1 rfl rfl rfl rfl (fun _ => rfl) rfl) rfl ?_
    refine K_call c2052 rfl rfl (nfits_spec l rk a.ranks _ _ _ V1 (hl.mono hv1) (hk.mono hv1) (ha.mono hv1).r (by omega)) ?_
    rintro _ V2 hv2 rfl
    refine KV (R_not rfl) rfl ?_
    refine K_nil ?_
    refine Q_then ?_
    refine K_ifB rfl (fun h30 => ?_) (fun h30 => ?_)
    ·
      have hmf : mapsM l rk a.ranks = false := by simpa using h30
      refine K_seq ?_
      refine K_region ?_
      refine KV (R_build z50 pl50 rfl rfl) rfl ?_
      refine K_storeW ty50 0 rfl rfl rfl rfl rfl rfl rfl ?_
      refine KV (R_assign rfl) rfl ?_
      refine K_nil ?_
      refine Q_then ?_
      refine K_ret ?_
      refine Q_then_ret ?_
      refine results_gen (rs := [.cell 6 37, .tmp 7]) (vs := [_, _]) rfl ⟨⟨_, _, _, _, _, _, 0, rfl, rfl, ty50, (fun e => by cases e), rfl, rfl⟩, ⟨rfl, trivial⟩⟩ ?_
      have hE : invErr a l rk = 3 := by unfold invErr; rw [if_neg (not_not_intro hte0), if_neg (by rw [hmf]; exact Bool.noConfusion)]
      rw [hE, errAu_no (by decide)]
      exact ⟨nilS, nilS, nilS, rfl, RepAu.nil _⟩
    ·
      have hmt : mapsM l rk a.ranks = true := by simpa using h30
      obtain ⟨hm1, hm2⟩ := mapsM_iff.1 hmt
      refine K_skip ?_
      refine Q_then ?_
      refine K_seq ?_
      refine K_regionD (fin := true) (R := [0, 2, 3, 4, 5, 1, 6, 7, 8, 9]) (by kernel_rfl) mixed (.cons_cons _ (.cons_cons _ (List.nil_sublist _))) ?_
      refine D_val rfl rfl rfl (R_move rfl) ?_
      refine D_val rfl rfl rfl (R_fieldAddr 1 fd50_1 rfl) ?_
      refine D_val rfl rfl rfl (R_loadO ty3 1 rfl rfl rfl rfl (fun _ => rfl) rfl) ?_
      refine D_val rfl rfl rfl (R_fieldAddr 3 fd50_3 rfl) ?_
      refine D_val rfl rfl rfl (R_loadO ty25 1 rfl rfl rfl rfl (fun _ => rfl) rfl) ?_
      refine D_call rfl rfl c45 rfl ⟨⟨0, rfl⟩, ⟨1, rfl⟩, trivial⟩ (clone47_spec rk _ V2 (hk.mono (hv1.trans hv2)) (by omega)) ?_
      rintro _ V3 hv3 hck
      obtain ⟨cka, ckc, rfl⟩ := hck.shape
      refine D_call rfl rfl c65 rfl ⟨⟨0, rfl⟩, ⟨1, rfl⟩, trivial⟩ (clone25_spec a.final _ V3 (ha.mono (hv1.trans (hv2.trans hv3))).f hfl) ?_
      rintro _ V4 hv4 hcf
      obtain ⟨cfa, cfc, rfl⟩ := hcf.shape
      refine D_val rfl rfl rfl (R_build z50 pl50 rfl rfl) ?_
      refine D_alloc rfl rfl rfl (A_alloc z50) fun b9 => ?_
      refine D_lastStoreW ty50 0 rfl rfl rfl rfl rfl rfl rfl rfl rfl ?_
      refine Q_then ?_
      refine K_seq ?_
      refine K_region ?_
      refine KV (R_loadW ty50 2 rfl rfl rfl rfl) rfl ?_
      refine K_call c2053 rfl rfl (book_spec a _ _ _ V4 (ha.mono (hv1.trans (hv2.trans (hv3.trans hv4))))) ?_
      rintro _ V5 hv5 ⟨bb, bkv, rfl, hbb, hbn, hbr⟩
      refine KV (R_assign rfl) rfl ?_
      refine K_nil ?_
      refine Q_then ?_
      refine K_seq ?_
      refine K_region ?_
      refine KV (R_assign rfl) rfl ?_
      refine K_nil ?_
      refine Q_then ?_
      refine K_seq ?_
      refine K_seq ?_
      refine K_region ?_
      refine KV (R_move rfl) rfl ?_
      refine KV (R_len sl25 rfl) rfl ?_
      refine KV (R_move rfl) rfl ?_
      refine K_nil ?_
      refine Q_then ?_
      refine K_block ?_
      refine K_loopD (G := Nat) [11, 13, 44, 45, 46, 47, 48, 49, 50, 51, 52, 53, 54] (fun g => [(44, .int .i64 (g : Int)), (11, .int .i64 (((backR l (sortO a.rules) g).length : Nat) : Int))]) (fun hl g => hl) (fun g => V5) (fun g => (g ≤ l.length)) (fun g => l.length - g) 0 (Nat.zero_le _) ⟨rfl, rfl, trivial⟩ (by simp only [args0, Nat.reduceAdd, del, memN, beqN, Nat.reduceBEq, cond_true, cond_false]; rfl) rfl rfl ?_
      rintro k hk0
      try dsimp only at hk0
      dsimp only [List.set, List.cons_append, List.nil_append]
      refine K_seq ?_
      refine K_region ?_
      refine KV (R_cmp rfl rfl rfl) rfl ?_
      refine K_nil ?_
      refine Q_then ?_
      refine K_seq ?_
      refine K_if rfl (fun h45 => ?_) (fun h45 => ?_)
      ·
        have hk' : k < l.length := by omega
        obtain ⟨lb, lo, hle0, hlx0⟩ := (hl.mono (hv1.trans (hv2.trans (hv3.trans (hv4.trans hv5))))).get (i := k) (by omega)
        cases hle0
        have hgd : l.getD k 0 = l[k] := by simp [List.getD, show k < l.length by omega]
        rw [← hgd] at hlx0
        have hS := hbr (l.getD k 0)
        generalize hsv : (lookI bkv (l.getD k 0)).getD nilS = sv at hS
        obtain ⟨sa, sc, rfl⟩ := hS.shape
        have hst := backR_step l (sortO a.rules) k
        have hbf := backR_fit hlb (l := l) (a := a) (k := k + 1) (by omega)
        refine K_skip ?_
        refine Q_then ?_
        refine K_seq ?_
        refine K_block ?_
        refine K_seq ?_
        refine K_region ?_
        refine KV (R_indexN sl25 ty3 rfl rfl (by omega)) rfl ?_
        refine KV (R_loadH ty3 rfl (hlx0) rfl (fun _ => rfl) rfl) rfl ?_
        refine KV (R_assign rfl) rfl ?_
        refine K_nil ?_
        refine Q_then ?_
        refine K_region ?_
        refine KV (R_move rfl) rfl ?_
        refine KV (R_move rfl) rfl ?_
        refine KV (R_move rfl) rfl ?_
        refine KV (R_lookV mt2031 (by kernel_rfl) z48 rfl rfl (.inl hbb) hsv) rfl ?_
        refine KV (R_len sl48 rfl) rfl ?_
        refine KV (R_add rfl rfl (by omega)) rfl ?_
        refine KV (R_assign rfl) rfl ?_
        refine K_nil ?_
        refine Q_block ?_
        refine Q_then ?_
        refine K_region ?_
        refine KV (R_add rfl rfl (by omega)) rfl ?_
        refine KV (R_move rfl) rfl ?_
        refine K_nil ?_
        refine Q_nextD (k + 1) hk' (by (try dsimp only); omega) ⟨rfl, congrArg (fun z => some (Value.int .i64 z)) (by rw [backR_step]; omega), trivial⟩ rfl rfl rfl
      ·
        have hk' : k = l.length := by omega
        have hbf := backR_fit hlb (l := l) (a := a) (k := k) (by omega)
        refine K_exit ?_
        refine Q_then_exit ?_
        refine Q_then_exit ?_
        refine Q_block_exit ?_
        refine Q_then ?_
        refine K_seq ?_
        refine K_seq ?_
        refine K_region ?_
        refine KV (R_move rfl) rfl ?_
        refine KV (R_cmp rfl rfl rfl) rfl ?_
        refine K_nil ?_
        refine Q_then ?_
        refine K_if rfl (fun h56 => ?_) (fun h56 => ?_)
        ·
          exact absurd h56 (by omega)
        ·
          refine K_skip ?_
          refine Q_then ?_
          refine K_seq ?_
          refine K_seq ?_
          refine K_region ?_
          refine KV (R_move rfl) rfl ?_
          refine KV (R_len sl25 rfl) rfl ?_
          refine KV (R_move rfl) rfl ?_
          refine K_nil ?_
          refine Q_then ?_
          refine K_block ?_
          refine K_nilrow T85 3 ?_
          refine K_loopD (G := Nat × View × Value × List Value) [14, 15, 17, 60, 61, 62, 63, 64, 65, 66, 67, 68, 69, 70, 71, 72, 73, 74, 75, 76, 77, 78, 79, 80, 81, 82, 83, 84, 85, 86] (fun g => [(60, .int .i64 (g.1 : Int))]) (fun hl g => ((hl.set 0 (row g.2.2.1 T85 3 (backR l (sortO a.rules) g.1).length g.2.2.2)).set 1 (blk b9 (.cells #[.slice cka rk.length ckc, .int .i64 a.states, g.2.2.1, .slice cfa a.final.length cfc] T50 (0, 0))))) (fun g => g.2.1) (fun g => (g.1 ≤ l.length) ∧ (VLe V5 g.2.1) ∧ (RepL (RepR g.2.1) 3 (backR l (sortO a.rules) g.1) g.2.2.2) ∧ (∃ ad cp, g.2.2.1 = .slice ad (backR l (sortO a.rules) g.1).length cp)) (fun g => l.length - g.1) (0, V5, nilS, []) ⟨Nat.zero_le _, VLe.refl _, .nil, none, 0, rfl⟩ ⟨rfl, trivial⟩ (by simp only [args0, Nat.reduceAdd, del, memN, beqN, Nat.reduceBEq, cond_true, cond_false]; rfl) rfl rfl ?_
          rintro ⟨s, V, w, cells⟩ ⟨hs0, hV, hC, hw⟩
          dsimp only at hs0 hV hC hw
          dsimp only [List.set, List.cons_append, List.nil_append]
          refine K_seq ?_
          refine K_region ?_
          refine KV (R_cmp rfl rfl rfl) rfl ?_
          refine K_nil ?_
          refine Q_then ?_
          refine K_seq ?_
          refine K_if rfl (fun h61 => ?_) (fun h61 => ?_)
          ·
            have hs' : s < l.length := by omega
            have hsi : i64ok (s : Int) := by simp only [i64ok]; omega
            obtain ⟨lb, lo, hle0, hlx0⟩ := (hl.mono ((hv1.trans (hv2.trans (hv3.trans (hv4.trans hv5)))).trans hV)).get (i := s) (by omega)
            cases hle0
            have hgd : l.getD s 0 = l[s] := by simp [List.getD, show s < l.length by omega]
            rw [← hgd] at hlx0
            have hS := (hbr (l.getD s 0)).mono hV
            generalize hsv : (lookI bkv (l.getD s 0)).getD nilS = sv at hS
            obtain ⟨sa, sc, rfl⟩ := hS.shape
            have hsll : (symR (sortO a.rules) (l.getD s 0)).length ≤ a.rules.length := Nat.le_trans (List.length_filter_le _ _) (sortO_len _)
            refine K_skip ?_
            refine Q_then ?_
            refine K_seq ?_
            refine K_block ?_
            refine K_seq ?_
            refine K_region ?_
            refine KV (R_move rfl) rfl ?_
            refine KV (R_indexN sl25 ty3 rfl rfl (by omega)) rfl ?_
            refine KV (R_loadH ty3 rfl (hlx0) rfl (fun _ => rfl) rfl) rfl ?_
            refine KV (R_assign rfl) rfl ?_
            refine KV (R_assign rfl) rfl ?_
            refine K_nil ?_
            refine Q_then ?_
            refine K_seq ?_
            refine K_region ?_
            refine KV (R_move rfl) rfl ?_
            refine KV (R_move rfl) rfl ?_
            refine KV (R_lookV mt2031 (by kernel_rfl) z48 rfl rfl (.inl (hV _ _ hbb)) hsv) rfl ?_
            refine KV (R_len sl48 rfl) rfl ?_
            refine KV (R_move rfl) rfl ?_
            refine K_nil ?_
            refine Q_then ?_
            refine K_block ?_
            have hE0 : backR l (sortO a.rules) s ++ ((symR (sortO a.rules) (l.getD s 0)).take 0).map (fun r => (⟨(s : Int), r.args, r.to⟩ : Rl)) = backR l (sortO a.rules) s := by simp
            refine K_loopD (G := Nat × View × Value × List Value) [17, 69, 70, 71, 72, 73, 74, 75, 76, 77, 78, 79, 80, 81, 82, 83, 84, 85] (fun g => [(69, .int .i64 (g.1 : Int))]) (fun hl g => ((hl.set 0 (row g.2.2.1 T85 3 (backR l (sortO a.rules) s ++ ((symR (sortO a.rules) (l.getD s 0)).take g.1).map (fun r => (⟨(s : Int), r.args, r.to⟩ : Rl))).length g.2.2.2)).set 1 (blk b9 (.cells #[.slice cka rk.length ckc, .int .i64 a.states, g.2.2.1, .slice cfa a.final.length cfc] T50 (0, 0))))) (fun g => g.2.1) (fun g => (g.1 ≤ (symR (sortO a.rules) (l.getD s 0)).length) ∧ (VLe V g.2.1) ∧ (RepL (RepR g.2.1) 3 (backR l (sortO a.rules) s ++ ((symR (sortO a.rules) (l.getD s 0)).take g.1).map (fun r => (⟨(s : Int), r.args, r.to⟩ : Rl))) g.2.2.2) ∧ (∃ ad cp, g.2.2.1 = .slice ad (backR l (sortO a.rules) s ++ ((symR (sortO a.rules) (l.getD s 0)).take g.1).map (fun r => (⟨(s : Int), r.args, r.to⟩ : Rl))).length cp)) (fun g => (symR (sortO a.rules) (l.getD s 0)).length - g.1) (0, V, w, cells) ⟨Nat.zero_le _, VLe.refl _, by rw [hE0]; exact hC, by rw [hE0]; exact hw⟩ ⟨rfl, trivial⟩ (by simp only [args0, Nat.reduceAdd, del, memN, beqN, Nat.reduceBEq, cond_true, cond_false]; rfl) (by dsimp only [List.set]; rw [hE0]) rfl ?_
            rintro ⟨j, V2, w2, cells2⟩ ⟨hj0, hV2, hC2, hw2⟩
            dsimp only at hj0 hV2 hC2 hw2
            dsimp only [List.set, List.cons_append, List.nil_append]
            obtain ⟨w2a, w2c, rfl⟩ := hw2
            have hb2 : (backR l (sortO a.rules) s ++ ((symR (sortO a.rules) (l.getD s 0)).take j).map (fun r => (⟨(s : Int), r.args, r.to⟩ : Rl))).length ≤ 65536 := by
              rw [List.length_append, List.length_map, List.length_take]
              have h1 := backR_step l (sortO a.rules) s
              have h2 := backR_fit hlb (l := l) (a := a) (k := s + 1) (by omega)
              omega
            refine K_seq ?_
            refine K_region ?_
            refine KV (R_cmp rfl rfl rfl) rfl ?_
            refine K_nil ?_
            refine Q_then ?_
            refine K_seq ?_
            refine K_if rfl (fun h70 => ?_) (fun h70 => ?_)
            ·
              have hj' : j < (symR (sortO a.rules) (l.getD s 0)).length := by omega
              obtain ⟨ub, uo, va, hue, hrc, hrv⟩ := (hS.mono hV2).elem hj'
              cases hue
              obtain ⟨xa, xcp, hxe⟩ := hrv.1.shape
              dsimp only at hxe
              subst hxe
              have hxl := hrv.2.1
              dsimp only at hxl
              refine K_skip ?_
              refine Q_then ?_
              refine K_seq ?_
              refine K_block ?_
              refine K_seq ?_
              refine K_region ?_
              refine KV (R_indexN sl48 ty85 rfl rfl (by omega)) rfl ?_
              refine KV (R_loadH ty85 rfl (hrc) rfl (fun e => by cases e) rfl) rfl ?_
              refine KA (A_alloc z85) rfl fun b17 => ?_
              refine K_storeW ty85 0 rfl rfl rfl rfl rfl rfl rfl ?_
              refine K_nil ?_
              refine Q_then ?_
              refine K_regionD (fin := true) (R := [0, 1, 2, 3, 4, 6, 7, 5, 8, 9, 10, 11, 12]) (by kernel_rfl) mixed (.cons_cons _ (.cons _ (.cons_cons _ (.cons_cons _ (.cons_cons _ (List.nil_sublist _)))))) ?_
              refine D_val rfl rfl rfl (R_fieldAddr 2 fd50_2 rfl) ?_
              refine D_val rfl rfl rfl (R_loadO ty48 1 rfl rfl rfl rfl (fun _ => rfl) rfl) ?_
              refine D_val rfl rfl rfl (R_move rfl) ?_
              refine D_val rfl rfl rfl (R_fieldAddr 1 fd85_1 rfl) ?_
              refine D_val rfl rfl rfl (R_loadO ty25 0 rfl rfl rfl rfl (fun _ => rfl) rfl) ?_
              refine D_val rfl rfl rfl (R_fieldAddr 2 fd85_2 rfl) ?_
              refine D_val rfl rfl rfl (R_loadO ty3 0 rfl rfl rfl rfl (fun _ => rfl) rfl) ?_
              refine D_call rfl rfl c65 rfl ⟨⟨0, rfl⟩, ⟨2, rfl⟩, ⟨3, rfl⟩, ⟨4, rfl⟩, trivial⟩ (clone25_spec (symR (sortO a.rules) (l.getD s 0))[j].args _ V2 hrv.1 hxl) ?_
              rintro _ U hU hca
              obtain ⟨ca, cc, rfl⟩ := hca.shape
              refine D_val rfl rfl rfl (R_build z85 pl85 rfl rfl) ?_
              refine D_alloc rfl rfl rfl (A_buildSlice (vs := [.agg #[.int .i64 (s : Int), .slice ca (symR (sortO a.rules) (l.getD s 0))[j].args.length cc, .int .i64 (symR (sortO a.rules) (l.getD s 0))[j].to]]) sl48 ty85 z85 rfl rfl (by simp [Value.cells]) (by simp) rfl (by decide)) fun b82 => ?_
              refine D_append1 1 ap48 rfl rfl rfl rfl rfl rfl ⟨⟨0, rfl⟩, ⟨1, rfl⟩, ⟨2, rfl⟩, ⟨3, rfl⟩, trivial⟩ rfl rfl ⟨by omega, by omega⟩ fun a83 k83 hn83 => ?_
              refine D_val rfl rfl rfl (R_fieldAddr 2 fd50_2 rfl) ?_
              refine D_lastStore ty48 2 rfl rfl rfl rfl rfl rfl rfl rfl ?_
              refine Q_block ?_
              refine Q_then ?_
              refine K_region ?_
              refine KV (R_add rfl rfl (by omega)) rfl ?_
              refine KV (R_move rfl) rfl ?_
              refine K_nil ?_
              refine KQ_sel [0, 1, 1, 1] rfl ?_
              have hE2 : backR l (sortO a.rules) s ++ ((symR (sortO a.rules) (l.getD s 0)).take (j + 1)).map (fun r => (⟨(s : Int), r.args, r.to⟩ : Rl)) = (backR l (sortO a.rules) s ++ ((symR (sortO a.rules) (l.getD s 0)).take j).map (fun r => (⟨(s : Int), r.args, r.to⟩ : Rl))) ++ [⟨(s : Int), (symR (sortO a.rules) (l.getD s 0))[j].args, (symR (sortO a.rules) (l.getD s 0))[j].to⟩] := by rw [List.take_succ_eq_append_getElem hj', List.map_append, List.append_assoc]; rfl
              refine Q_nextD (j + 1, U, .slice a83 ((backR l (sortO a.rules) s ++ ((symR (sortO a.rules) (l.getD s 0)).take j).map (fun r => (⟨(s : Int), r.args, r.to⟩ : Rl))).length + 1) k83, cells2 ++ [.int .i64 (s : Int), .slice ca (symR (sortO a.rules) (l.getD s 0))[j].args.length cc, .int .i64 (symR (sortO a.rules) (l.getD s 0))[j].to]) ⟨hj', hV2.trans hU, by rw [hE2]; exact (hC2.imp fun x cs h => h.mono hU).snoc ⟨_, _, rfl, hca, hsi, hrv.2.2.2, hxl⟩ rfl, _, _, by rw [hE2, List.length_append (bs := [_])]; rfl⟩ (by (try dsimp only); omega) ⟨rfl, trivial⟩ rfl (by dsimp only [List.set]; rw [hE2, List.length_append (bs := [_])]; rfl) rfl
            ·
              have hj' : j = (symR (sortO a.rules) (l.getD s 0)).length := by omega
              refine K_exit ?_
              refine Q_then_exit ?_
              refine Q_then_exit ?_
              refine Q_block_exit ?_
              refine Q_block ?_
              refine Q_then ?_
              refine K_region ?_
              refine KV (R_add rfl rfl (by omega)) rfl ?_
              refine KV (R_move rfl) rfl ?_
              refine K_nil ?_
              have hE : backR l (sortO a.rules) s ++ ((symR (sortO a.rules) (l.getD s 0)).take j).map (fun r => (⟨(s : Int), r.args, r.to⟩ : Rl)) = backR l (sortO a.rules) (s + 1) := by rw [hj', List.take_length, backR_succ, backS_symR]
              rw [hE] at hC2
              rw [hE]
              refine Q_nextD (s + 1, V2, .slice w2a (backR l (sortO a.rules) (s + 1)).length w2c, cells2) ⟨hs', hV.trans hV2, hC2, _, _, rfl⟩ (by (try dsimp only); omega) ⟨rfl, trivial⟩ rfl rfl rfl
          ·
            have hs' : s = l.length := by omega
            subst hs'
            refine K_exit ?_
            refine Q_then_exit ?_
            refine Q_then_exit ?_
            refine Q_block_exit ?_
            refine Q_then ?_
            refine K_seq ?_
            obtain ⟨wa, wcp, rfl⟩ := hw
            refine KC_pubrow rfl fun U hU hrow => ?_
            have hI : RepAu U ⟨rk, a.states, backR l (sortO a.rules) l.length, a.final⟩ (.slice cka rk.length ckc) (.slice wa (backR l (sortO a.rules) l.length).length wcp) (.slice cfa a.final.length cfc) := ⟨hck.mono (hv4.trans (hv5.trans (hV.trans hU))), ⟨cells, hrow.sl, hC.imp fun x cs h => h.mono hU⟩, hcf.mono (hv5.trans (hV.trans hU)), ha.s, by show rk.length ≤ _; omega, by have := backR_fit hlb (l := l) (a := a) (Nat.le_refl _); show (backR l (sortO a.rules) l.length).length ≤ _; omega, hfl⟩
            refine K_region ?_
            refine KV (R_loadW ty50 0 rfl rfl rfl rfl) rfl ?_
            refine K_call c2045 rfl rfl (sortedS_spec ⟨rk, a.states, backR l (sortO a.rules) l.length, a.final⟩ _ _ _ U hI) ?_
            rintro _ V8 hv8 ⟨s1, s2, s3, rfl, hS2⟩
            rw [back_norm] at hS2
            obtain ⟨sr, src, rfl⟩ := hS2.r.shape
            obtain ⟨sf, sfc, rfl⟩ := hS2.f.shape
            obtain ⟨su, suc, rfl⟩ := hS2.ushape
            refine K_storeW ty50 1 rfl rfl rfl rfl rfl rfl rfl ?_
            refine KV (R_assign rfl) rfl ?_
            refine K_nil ?_
            refine Q_then ?_
            refine K_ret ?_
            refine results_gen (rs := [.cell 6 37, .tmp 7]) (vs := [_, _]) rfl ⟨⟨_, _, _, _, _, _, 1, rfl, rfl, ty50, (fun e => by cases e), rfl, rfl⟩, ⟨rfl, trivial⟩⟩ ?_
            have hE : invErr a l rk = 0 := by unfold invErr; rw [if_neg (not_not_intro hte0), if_pos hmt]
            rw [hE, errAu_ok rfl]
            exact ⟨_, _, _, rfl, hS2⟩
end Go.Proofs.X

namespace Go.Proofs.X
open Go Pal Go.Proofs
attribute [local irreducible] Pal.KO Pal.KC Pal.KQ Pal.KD
theorem c2023 : callable Tryz.prog F2023 = true := by kernel_rfl
theorem c2024 : callable Tryz.prog F2024 = true := by kernel_rfl
theorem c2025 : callable Tryz.prog F2025 = true := by kernel_rfl
theorem c2026 : callable Tryz.prog F2026 = true := by kernel_rfl
theorem c2027 : callable Tryz.prog F2027 = true := by kernel_rfl
theorem relabel32_law (a : Au) (l rk : List Int) (vr vu vf lv kv : Value) (H : View) (ha : RepAu H a vr vu vf) (hl : SI H lv l) (hk : SI H kv rk) (hll : l.length ≤ 1048576) (hkl : rk.length ≤ 1048576) : Sat Tryz.prog F2003 #[.agg #[vr, .int .i64 a.states, vu, vf], lv, kv] H (fun v _ => v = .bool true) := by
  obtain ⟨ar, arc, rfl⟩ := ha.r.shape
  obtain ⟨af, afc, rfl⟩ := ha.f.shape
  obtain ⟨au, auc, rfl⟩ := ha.ushape
  obtain ⟨la, lc, rfl⟩ := hl.shape
  obtain ⟨ka, kc, rfl⟩ := hk.shape
  have hul := ha.ul
  have hfl := ha.fl
  have hrl := ha.rl
  have hab := ha.b
  refine enterO (n := 104) (args := [.agg #[.slice ar a.ranks.length arc, .int .i64 a.states, .slice au a.rules.length auc, .slice af a.final.length afc], .slice la l.length lc, .slice ka rk.length kc]) Tryz.func6 rfl rfl rfl fun w0 => ?_
  refine K_seq ?_
  refine K_region ?_
  refine KA (A_box rfl) rfl fun b3 => ?_
  refine KV (R_assign rfl) rfl ?_
  refine K_nil ?_
  refine Q_then ?_
  refine K_seq ?_
  refine K_seq ?_
  refine K_region ?_
  refine K_call c2009 rfl rfl (known32_spec _) ?_
  rintro _ V1 hv1 rfl
  refine KV (R_not rfl) rfl ?_
  refine K_nil ?_
  refine Q_then ?_
  refine K_ifB rfl (fun h13 => ?_) (fun h13 => ?_)
  ·
    cases h13
  ·
    refine K_skip ?_
    refine Q_then ?_
    refine K_seq ?_
    refine K_seq ?_
    refine K_region ?_
    refine KV (R_loadW ty42 0 rfl rfl rfl rfl) rfl ?_
    refine K_call c15 rfl rfl (few_spec a _ _ _ V1 (ha.mono hv1)) ?_
    rintro _ V2 hv2 rfl
    refine KV (R_notP rfl) rfl ?_
    refine KV (R_move rfl) rfl ?_
    refine K_split ?_ ?_
    ·
      intro h17
      refine K_gno rfl rfl rfl rfl ?_
      refine K_gno rfl rfl rfl rfl ?_
      refine K_gno rfl rfl rfl rfl ?_
      refine KV (R_pickT rfl rfl) rfl ?_
      refine KV (R_move rfl) rfl ?_
      refine K_gno rfl rfl rfl rfl ?_
      refine K_gno rfl rfl rfl rfl ?_
      refine K_gno rfl rfl rfl rfl ?_
      refine KV (R_pickT rfl rfl) rfl ?_
      refine K_nil ?_
      refine Q_then ?_
      refine K_ifT rfl ?_
      refine K_seq ?_
      refine K_region ?_
      refine KV (R_assign rfl) rfl ?_
      refine K_nil ?_
      refine Q_then ?_
      refine K_ret ?_
      refine Q_then_ret ?_
      refine results_gen (rs := [.tmp 6]) (vs := [_]) rfl ⟨rfl, trivial⟩ ?_
      first | rfl | exact congrArg Value.bool (decide_eq_true (hiE.trans htE)) | exact congrArg Value.bool (decide_eq_true rfl)
    ·
      intro h17
      have hfew := Decidable.not_not.1 h17
      refine K_gyes rfl rfl ?_
      refine KV (R_move rfl) rfl ?_
      refine K_gyes rfl rfl ?_
      refine KV (R_len sl25 rfl) rfl ?_
      refine K_gyes rfl rfl ?_
      refine KV (R_cmp rfl rfl rfl) rfl ?_
      refine KV (R_pickF rfl rfl) rfl ?_
      refine KV (R_move rfl) rfl ?_
      refine K_split ?_ ?_
      ·
        intro h22
        refine K_gno rfl rfl rfl rfl ?_
        refine K_gno rfl rfl rfl rfl ?_
        refine K_gno rfl rfl rfl rfl ?_
        refine KV (R_pickT rfl rfl) rfl ?_
        refine K_nil ?_
        refine Q_then ?_
        refine K_ifT rfl ?_
        refine K_seq ?_
        refine K_region ?_
        refine KV (R_assign rfl) rfl ?_
        refine K_nil ?_
        refine Q_then ?_
        refine K_ret ?_
        refine Q_then_ret ?_
        refine results_gen (rs := [.tmp 6]) (vs := [_]) rfl ⟨rfl, trivial⟩ ?_
        first | rfl | exact congrArg Value.bool (decide_eq_true (hiE.trans htE)) | exact congrArg Value.bool (decide_eq_true rfl)
      ·
        intro h22
        refine K_gyes rfl rfl ?_
        refine KV (R_move rfl) rfl ?_
        refine K_gyes rfl rfl ?_
        refine KV (R_len sl25 rfl) rfl ?_
        refine K_gyes rfl rfl ?_
        refine KV (R_cmp rfl rfl rfl) rfl ?_
        refine KV (R_pickF rfl rfl) rfl ?_
        refine K_nil ?_
        refine Q_then ?_
        refine K_if rfl (fun h26 => ?_) (fun h26 => ?_)
        ·
          refine K_seq ?_
          refine K_region ?_
          refine KV (R_assign rfl) rfl ?_
          refine K_nil ?_
          refine Q_then ?_
          refine K_ret ?_
          refine Q_then_ret ?_
          refine results_gen (rs := [.tmp 6]) (vs := [_]) rfl ⟨rfl, trivial⟩ ?_
          first | rfl | exact congrArg Value.bool (decide_eq_true (hiE.trans htE)) | exact congrArg Value.bool (decide_eq_true rfl)
        ·
          have hlb : l.length * a.rules.length ≤ 65536 := Nat.le_trans (Nat.mul_le_mul (show l.length ≤ 12 by omega) hfew.2.2.1) (by decide)
          refine K_skip ?_
          refine Q_then ?_
          refine K_seq ?_
          refine K_region ?_
          refine KV (R_loadW ty42 0 rfl rfl rfl rfl) rfl ?_
          refine K_call c17 rfl rfl (to_spec a _ _ _ V2 (ha.mono (hv1.trans hv2))) ?_
          rintro _ V3 hv3 ⟨x1, x2, x3, rfl, hx⟩
          refine KV (R_move rfl) rfl ?_
          refine KV (R_move rfl) rfl ?_
          refine K_call c2023 rfl rfl (relabelN_spec a l rk _ _ _ _ _ V3 hx (hl.mono (hv1.trans (hv2.trans hv3))) (hk.mono (hv1.trans (hv2.trans hv3))) hll hkl) ?_
          rintro _ V4 hv4 ⟨n1, n2, n3, rfl, hB⟩
          have bE : relErr a l rk ≠ 0 → errAu (relErr a l rk) (normA (imgA a l rk)) = zeroA := errAu_no
          have b0 : relErr a l rk = 0 → errAu (relErr a l rk) (normA (imgA a l rk)) = normA (imgA a l rk) := errAu_ok
          generalize errAu (relErr a l rk) (normA (imgA a l rk)) = b at hB bE b0 ⊢
          obtain ⟨br, brc, rfl⟩ := hB.r.shape
          obtain ⟨bf, bfc, rfl⟩ := hB.f.shape
          obtain ⟨bu, buc, rfl⟩ := hB.ushape
          refine KV (R_move rfl) rfl ?_
          refine KV (R_extract rfl rfl) rfl ?_
          refine KV (R_extract rfl rfl) rfl ?_
          refine KA (A_alloc z50) rfl fun b7 => ?_
          refine K_storeW ty50 0 rfl rfl rfl rfl rfl rfl rfl ?_
          refine KV (R_assign rfl) rfl ?_
          refine K_nil ?_
          refine Q_then ?_
          refine K_seq ?_
          refine K_region ?_
          refine KV (R_loadW ty42 1 rfl rfl rfl rfl) rfl ?_
          refine K_call c17 rfl rfl (to_spec a _ _ _ V4 (ha.mono (hv1.trans (hv2.trans (hv3.trans hv4))))) ?_
          rintro _ V5 hv5 ⟨y1, y2, y3, rfl, hy⟩
          have hvA : VLe H V5 := hv1.trans (hv2.trans (hv3.trans (hv4.trans hv5)))
          refine KV (R_move rfl) rfl ?_
          refine KV (R_move rfl) rfl ?_
          refine K_call c2024 rfl rfl (inverseN_spec a l rk _ _ _ _ _ V5 hy (hl.mono hvA) (hk.mono hvA) hll hkl hlb) ?_
          rintro _ V6 hv6 ⟨m1, m2, m3, rfl, hC⟩
          have dAE : invErr a l rk ≠ 0 → errAu (invErr a l rk) (normA (backA a l rk)) = zeroA := errAu_no
          have dA0 : invErr a l rk = 0 → errAu (invErr a l rk) (normA (backA a l rk)) = normA (backA a l rk) := errAu_ok
          generalize errAu (invErr a l rk) (normA (backA a l rk)) = dA at hC dAE dA0 ⊢
          obtain ⟨cr, crc, rfl⟩ := hC.r.shape
          obtain ⟨cf, cfc, rfl⟩ := hC.f.shape
          obtain ⟨cu, cuc, rfl⟩ := hC.ushape
          refine KV (R_move rfl) rfl ?_
          refine KV (R_extract rfl rfl) rfl ?_
          refine KV (R_extract rfl rfl) rfl ?_
          refine KA (A_alloc z50) rfl fun b9 => ?_
          refine K_storeW ty50 0 rfl rfl rfl rfl rfl rfl rfl ?_
          refine KV (R_assign rfl) rfl ?_
          refine K_nil ?_
          refine Q_then ?_
          refine K_seq ?_
          refine K_region ?_
          refine KV (R_loadW ty42 2 rfl rfl rfl rfl) rfl ?_
          refine K_call c20 rfl rfl (rcheck_spec a _ _ _ V6 (ha.mono (hvA.trans hv6))) ?_
          rintro _ V7 hv7 rfl
          refine KV (R_assign rfl) rfl ?_
          refine K_nil ?_
          refine Q_then ?_
          refine K_seq ?_
          refine K_seq ?_
          refine K_region ?_
          refine KV (R_move rfl) rfl ?_
          refine KV (R_cmp rfl rfl rfl) rfl ?_
          refine K_nil ?_
          refine Q_then ?_
          refine K_if rfl (fun h46 => ?_) (fun h46 => ?_)
          ·
            have htE : turnErr a rk = ranksErr rk := by unfold turnErr; rw [if_neg (not_not_intro h46)]
            refine K_region ?_
            refine KV (R_move rfl) rfl ?_
            refine K_call c36 rfl rfl (rcheck31_spec rk _ V7 (hk.mono (hvA.trans (hv6.trans hv7))) (by omega)) ?_
            rintro _ V8 hv8 rfl
            have hvC := hv7.trans hv8
            refine KV (R_assign rfl) rfl ?_
            refine K_nil ?_
            refine Q_then ?_
            refine K_seq ?_
            refine K_seq ?_
            refine K_region ?_
            refine KV (R_move rfl) rfl ?_
            refine KV (R_cmp rfl rfl rfl) rfl ?_
            refine K_nil ?_
            refine Q_then ?_
            refine K_if rfl (fun h50 => ?_) (fun h50 => ?_)
            ·
              have hrE : relErr a l rk = turnErr a rk := by unfold relErr; rw [if_pos (by rw [htE]; exact h50)]
              have hiE : invErr a l rk = turnErr a rk := by unfold invErr; rw [if_pos (by rw [htE]; exact h50)]
              refine K_seq ?_
              refine K_region ?_
              refine KV (R_move rfl) rfl ?_
              refine KV (R_move rfl) rfl ?_
              refine KV (R_cmp rfl rfl rfl) rfl ?_
              refine KV (R_move rfl) rfl ?_
              refine K_split ?_ ?_
              ·
                intro h54
                refine K_gyes rfl rfl ?_
                refine KV (R_move rfl) rfl ?_
                refine K_gyes rfl rfl ?_
                refine KV (R_move rfl) rfl ?_
                refine K_gyes rfl rfl ?_
                refine KV (R_cmp rfl rfl rfl) rfl ?_
                refine KV (R_pickT rfl rfl) rfl ?_
                refine KV (R_assign rfl) rfl ?_
                refine K_nil ?_
                refine Q_then ?_
                refine K_ret ?_
                refine Q_then_ret ?_
                refine results_gen (rs := [.tmp 6]) (vs := [_]) rfl ⟨rfl, trivial⟩ ?_
                first | rfl | exact congrArg Value.bool (decide_eq_true (hiE.trans htE)) | exact congrArg Value.bool (decide_eq_true rfl)
              ·
                intro h54
                exact absurd (hrE.trans htE) h54
            ·
              have hte0 : turnErr a rk = 0 := htE.trans (Decidable.not_not.1 h50)
              have hvW := hvA.trans (hv6.trans hvC)
              have hae0 : auErr a = 0 := by
                unfold turnErr at hte0
                split at hte0
                · rename_i h; exact absurd hte0 h
                · rename_i h; exact Decidable.not_not.1 h
              have hok := AuOk.of hae0
              have hrk0 : ranksErr rk = 0 := by unfold turnErr at hte0; rw [if_neg (not_not_intro hae0)] at hte0; exact hte0
              refine K_skip ?_
              refine Q_then ?_
              refine K_seq ?_
              refine K_seq ?_
              refine K_region ?_
              refine KV (R_move rfl) rfl ?_
              refine KV (R_fieldAddr 0 fd42_0 rfl) rfl ?_
              refine KV (R_loadO ty25 2 rfl rfl rfl rfl (fun _ => rfl) rfl) rfl ?_
              refine KV (R_move rfl) rfl ?_
              refine K_call c2025 rfl rfl (maps32_spec l a.ranks rk _ _ _ _ (hl.mono hvW) (ha.mono hvW).r (hk.mono hvW) (by omega)) ?_
              rintro _ V9 hv9 rfl
              have hB9 := hB.mono (hv5.trans (hv6.trans (hvC.trans hv9)))
              have hvY := hvW.trans hv9
              refine K_nil ?_
              refine Q_then ?_
              refine K_ifB rfl (fun hmt => ?_) (fun hmt => ?_)
              ·
                have hr0 : relErr a l rk = 0 := by unfold relErr; rw [if_neg (not_not_intro hte0), if_pos hmt]
                obtain rfl := b0 hr0
                refine K_seq ?_
                refine K_regionD (fin := false) (R := [0, 1, 2, 3, 4, 5, 6, 7, 8, 9, 10]) (by kernel_rfl) mixed (.cons_cons _ (.cons_cons _ (.cons_cons _ (List.nil_sublist _)))) ?_
                refine D_val rfl rfl rfl (R_move rfl) ?_
                refine D_val rfl rfl rfl (R_cmp rfl rfl rfl) ?_
                refine D_val rfl rfl rfl (R_move rfl) ?_
                refine D_split ?_ ?_
                ·
                  intro h66
                  exact absurd hr0 h66
                ·
                  intro h66
                  refine D_val rfl rfl rfl (R_loadW ty50 1 rfl rfl rfl rfl) ?_
                  refine D_val rfl rfl rfl (R_loadW ty42 2 rfl rfl rfl rfl) ?_
                  refine D_val rfl rfl rfl (R_move rfl) ?_
                  refine D_val rfl rfl rfl (R_move rfl) ?_
                  refine D_call rfl rfl c2026 rfl ⟨⟨0, rfl⟩, ⟨1, rfl⟩, ⟨2, rfl⟩, trivial⟩ (image_spec a l rk _ _ _ _ _ V9 (ha.mono hvY) (hl.mono hvY) (hk.mono hvY) hll hkl hok hmt) ?_
                  rintro _ V10 hv10 ⟨i1, i2, i3, rfl, hI⟩
                  have hIok := imgA_ok hok hrk0 hmt
                  rw [sortedM_norm hIok] at hI
                  refine D_call rfl rfl c2021 rfl ⟨⟨0, rfl⟩, ⟨1, rfl⟩, ⟨2, rfl⟩, trivial⟩ (alike_spec (normA (imgA a l rk)) (normA (imgA a l rk)) _ _ _ _ _ _ V10 (hB9.mono hv10) hI (normA_ok hIok) (normA_ok hIok) (norm_idem _) (sameM_self _)) ?_
                  rintro _ V11 hv11 rfl
                  have hvZ := hvY.trans (hv10.trans hv11)
                  have hCZ := hC.mono (hvC.trans (hv9.trans (hv10.trans hv11)))
                  refine D_val rfl rfl rfl (R_not rfl) ?_
                  refine D_val rfl rfl rfl (R_pickF rfl rfl) ?_
                  refine D_done ?_
                  refine Q_then ?_
                  refine K_ifB rfl (fun h74 => ?_) (fun h74 => ?_)
                  ·
                    cases h74
                  ·
                    refine K_skip ?_
                    refine Q_then ?_
                    refine K_seq ?_
                    refine K_seq ?_
                    refine K_region ?_
                    refine KV (R_move rfl) rfl ?_
                    refine KV (R_move rfl) rfl ?_
                    refine KV (R_fieldAddr 0 fd42_0 rfl) rfl ?_
                    refine KV (R_loadO ty25 2 rfl rfl rfl rfl (fun _ => rfl) rfl) rfl ?_
                    refine K_call c2025 rfl rfl (maps32_spec l rk a.ranks _ _ _ _ (hl.mono hvZ) (hk.mono hvZ) (ha.mono hvZ).r (by omega)) ?_
                    rintro _ V12 hv12 rfl
                    have hvZ2 := hvZ.trans hv12
                    refine K_nil ?_
                    refine Q_then ?_
                    refine K_ifB rfl (fun hmb => ?_) (fun hmb => ?_)
                    ·
                      have hi0 : invErr a l rk = 0 := by unfold invErr; rw [if_neg (not_not_intro hte0), if_pos hmb]
                      obtain rfl := dA0 hi0
                      refine K_seq ?_
                      refine K_regionD (fin := false) (R := [0, 1, 2, 3, 4, 5, 6, 7, 8, 9, 10]) (by kernel_rfl) mixed (.cons_cons _ (.cons_cons _ (.cons_cons _ (List.nil_sublist _)))) ?_
                      refine D_val rfl rfl rfl (R_move rfl) ?_
                      refine D_val rfl rfl rfl (R_cmp rfl rfl rfl) ?_
                      refine D_val rfl rfl rfl (R_move rfl) ?_
                      refine D_split ?_ ?_
                      ·
                        intro h89
                        refine D_val rfl rfl rfl (R_loadW ty50 0 rfl rfl rfl rfl) ?_
                        refine D_val rfl rfl rfl (R_loadW ty42 2 rfl rfl rfl rfl) ?_
                        refine D_val rfl rfl rfl (R_move rfl) ?_
                        refine D_val rfl rfl rfl (R_move rfl) ?_
                        refine D_call rfl rfl c2027 rfl ⟨⟨0, rfl⟩, ⟨1, rfl⟩, ⟨2, rfl⟩, trivial⟩ (back_spec32 a l rk _ _ _ _ _ V12 (ha.mono hvZ2) (hl.mono hvZ2) (hk.mono hvZ2) hll hkl hok hmb hlb) ?_
                        rintro _ V13 hv13 ⟨j1, j2, j3, rfl, hJ⟩
                        have hJok := backA_ok hok hrk0 hmb hlb
                        rw [sortedM_norm hJok] at hJ
                        refine D_call rfl rfl c2021 rfl ⟨⟨0, rfl⟩, ⟨1, rfl⟩, ⟨2, rfl⟩, trivial⟩ (alike_spec (normA (backA a l rk)) (normA (backA a l rk)) _ _ _ _ _ _ V13 (hCZ.mono (hv12.trans hv13)) hJ (normA_ok hJok) (normA_ok hJok) (norm_idem _) (sameM_self _)) ?_
                        rintro _ V14 hv14 rfl
                        refine D_val rfl rfl rfl (R_pickT rfl rfl) ?_
                        refine D_val rfl rfl rfl (R_assign rfl) ?_
                        refine D_done ?_
                        refine Q_then ?_
                        refine K_ret ?_
                        refine Q_then_ret ?_
                        refine results_gen (rs := [.tmp 6]) (vs := [_]) rfl ⟨rfl, trivial⟩ ?_
                        first | rfl | exact congrArg Value.bool (decide_eq_true (hiE.trans htE)) | exact congrArg Value.bool (decide_eq_true rfl)
                      ·
                        intro h89
                        exact absurd hi0 h89
                    ·
                      have hi3 : invErr a l rk = 3 := by unfold invErr; rw [if_neg (not_not_intro hte0), if_neg (by rw [hmb]; exact Bool.noConfusion)]
                      obtain rfl := dAE (by rw [hi3]; decide)
                      refine K_skip ?_
                      refine Q_then ?_
                      refine K_seq ?_
                      refine K_region ?_
                      refine KV (R_move rfl) rfl ?_
                      refine KV (R_cmp rfl rfl rfl) rfl ?_
                      refine KV (R_move rfl) rfl ?_
                      refine K_split ?_ ?_
                      ·
                        intro h99
                        refine K_gyes rfl rfl ?_
                        refine KV (R_fieldAddr 1 fd50_1 rfl) rfl ?_
                        refine K_gyes rfl rfl ?_
                        refine KV (R_loadO ty3 0 rfl rfl rfl rfl (fun _ => rfl) rfl) rfl ?_
                        refine K_gyes rfl rfl ?_
                        refine KV (R_cmp rfl rfl rfl) rfl ?_
                        refine KV (R_pickT rfl rfl) rfl ?_
                        refine KV (R_assign rfl) rfl ?_
                        refine K_nil ?_
                        refine Q_then ?_
                        refine K_ret ?_
                        refine results_gen (rs := [.tmp 6]) (vs := [_]) rfl ⟨rfl, trivial⟩ ?_
                        first | rfl | exact congrArg Value.bool (decide_eq_true (hiE.trans htE)) | exact congrArg Value.bool (decide_eq_true rfl)
                      ·
                        intro h99
                        exact absurd hi3 h99
              ·
                have hr3 : relErr a l rk = 3 := by unfold relErr; rw [if_neg (not_not_intro hte0), if_neg (by rw [hmt]; exact Bool.noConfusion)]
                obtain rfl := bE (by rw [hr3]; decide)
                have hvZ := hvY
                have hCZ := hC.mono (hvC.trans hv9)
                refine K_seq ?_
                refine K_region ?_
                refine KV (R_move rfl) rfl ?_
                refine KV (R_cmp rfl rfl rfl) rfl ?_
                refine KV (R_move rfl) rfl ?_
                refine K_split ?_ ?_
                ·
                  intro h77
                  exact absurd hr3 h77
                ·
                  intro h77
                  refine K_gyes rfl rfl ?_
                  refine KV (R_fieldAddr 1 fd50_1 rfl) rfl ?_
                  refine K_gyes rfl rfl ?_
                  refine KV (R_loadO ty3 1 rfl rfl rfl rfl (fun _ => rfl) rfl) rfl ?_
                  refine K_gyes rfl rfl ?_
                  refine KV (R_cmp rfl rfl rfl) rfl ?_
                  refine KV (R_pickF rfl rfl) rfl ?_
                  refine K_nil ?_
                  refine Q_then ?_
                  refine K_if rfl (fun h81 => ?_) (fun h81 => ?_)
                  ·
                    exact absurd rfl h81
                  ·
                    refine K_skip ?_
                    refine Q_then ?_
                    refine K_seq ?_
                    refine K_seq ?_
                    refine K_region ?_
                    refine KV (R_move rfl) rfl ?_
                    refine KV (R_move rfl) rfl ?_
                    refine KV (R_fieldAddr 0 fd42_0 rfl) rfl ?_
                    refine KV (R_loadO ty25 2 rfl rfl rfl rfl (fun _ => rfl) rfl) rfl ?_
                    refine K_call c2025 rfl rfl (maps32_spec l rk a.ranks _ _ _ _ (hl.mono hvZ) (hk.mono hvZ) (ha.mono hvZ).r (by omega)) ?_
                    rintro _ V12 hv12 rfl
                    have hvZ2 := hvZ.trans hv12
                    refine K_nil ?_
                    refine Q_then ?_
                    refine K_ifB rfl (fun hmb => ?_) (fun hmb => ?_)
                    ·
                      have hi0 : invErr a l rk = 0 := by unfold invErr; rw [if_neg (not_not_intro hte0), if_pos hmb]
                      obtain rfl := dA0 hi0
                      refine K_seq ?_
                      refine K_regionD (fin := false) (R := [0, 1, 2, 3, 4, 5, 6, 7, 8, 9, 10]) (by kernel_rfl) mixed (.cons_cons _ (.cons_cons _ (.cons_cons _ (List.nil_sublist _)))) ?_
                      refine D_val rfl rfl rfl (R_move rfl) ?_
                      refine D_val rfl rfl rfl (R_cmp rfl rfl rfl) ?_
                      refine D_val rfl rfl rfl (R_move rfl) ?_
                      refine D_split ?_ ?_
                      ·
                        intro h89
                        refine D_val rfl rfl rfl (R_loadW ty50 0 rfl rfl rfl rfl) ?_
                        refine D_val rfl rfl rfl (R_loadW ty42 2 rfl rfl rfl rfl) ?_
                        refine D_val rfl rfl rfl (R_move rfl) ?_
                        refine D_val rfl rfl rfl (R_move rfl) ?_
                        refine D_call rfl rfl c2027 rfl ⟨⟨0, rfl⟩, ⟨1, rfl⟩, ⟨2, rfl⟩, trivial⟩ (back_spec32 a l rk _ _ _ _ _ V12 (ha.mono hvZ2) (hl.mono hvZ2) (hk.mono hvZ2) hll hkl hok hmb hlb) ?_
                        rintro _ V13 hv13 ⟨j1, j2, j3, rfl, hJ⟩
                        have hJok := backA_ok hok hrk0 hmb hlb
                        rw [sortedM_norm hJok] at hJ
                        refine D_call rfl rfl c2021 rfl ⟨⟨0, rfl⟩, ⟨1, rfl⟩, ⟨2, rfl⟩, trivial⟩ (alike_spec (normA (backA a l rk)) (normA (backA a l rk)) _ _ _ _ _ _ V13 (hCZ.mono (hv12.trans hv13)) hJ (normA_ok hJok) (normA_ok hJok) (norm_idem _) (sameM_self _)) ?_
                        rintro _ V14 hv14 rfl
                        refine D_val rfl rfl rfl (R_pickT rfl rfl) ?_
                        refine D_val rfl rfl rfl (R_assign rfl) ?_
                        refine D_done ?_
                        refine Q_then ?_
                        refine K_ret ?_
                        refine Q_then_ret ?_
                        refine results_gen (rs := [.tmp 6]) (vs := [_]) rfl ⟨rfl, trivial⟩ ?_
                        first | rfl | exact congrArg Value.bool (decide_eq_true (hiE.trans htE)) | exact congrArg Value.bool (decide_eq_true rfl)
                      ·
                        intro h89
                        exact absurd hi0 h89
                    ·
                      have hi3 : invErr a l rk = 3 := by unfold invErr; rw [if_neg (not_not_intro hte0), if_neg (by rw [hmb]; exact Bool.noConfusion)]
                      obtain rfl := dAE (by rw [hi3]; decide)
                      refine K_skip ?_
                      refine Q_then ?_
                      refine K_seq ?_
                      refine K_region ?_
                      refine KV (R_move rfl) rfl ?_
                      refine KV (R_cmp rfl rfl rfl) rfl ?_
                      refine KV (R_move rfl) rfl ?_
                      refine K_split ?_ ?_
                      ·
                        intro h99
                        refine K_gyes rfl rfl ?_
                        refine KV (R_fieldAddr 1 fd50_1 rfl) rfl ?_
                        refine K_gyes rfl rfl ?_
                        refine KV (R_loadO ty3 0 rfl rfl rfl rfl (fun _ => rfl) rfl) rfl ?_
                        refine K_gyes rfl rfl ?_
                        refine KV (R_cmp rfl rfl rfl) rfl ?_
                        refine KV (R_pickT rfl rfl) rfl ?_
                        refine KV (R_assign rfl) rfl ?_
                        refine K_nil ?_
                        refine Q_then ?_
                        refine K_ret ?_
                        refine results_gen (rs := [.tmp 6]) (vs := [_]) rfl ⟨rfl, trivial⟩ ?_
                        first | rfl | exact congrArg Value.bool (decide_eq_true (hiE.trans htE)) | exact congrArg Value.bool (decide_eq_true rfl)
                      ·
                        intro h99
                        exact absurd hi3 h99
          ·
            have htE : turnErr a rk = auErr a := by unfold turnErr; rw [if_pos h46]
            have hvC := hv7
            refine K_skip ?_
            refine Q_then ?_
            refine K_seq ?_
            refine K_seq ?_
            refine K_region ?_
            refine KV (R_move rfl) rfl ?_
            refine KV (R_cmp rfl rfl rfl) rfl ?_
            refine K_nil ?_
            refine Q_then ?_
            refine K_if rfl (fun h50 => ?_) (fun h50 => ?_)
            ·
              have hrE : relErr a l rk = turnErr a rk := by unfold relErr; rw [if_pos (by rw [htE]; exact h50)]
              have hiE : invErr a l rk = turnErr a rk := by unfold invErr; rw [if_pos (by rw [htE]; exact h50)]
              refine K_seq ?_
              refine K_region ?_
              refine KV (R_move rfl) rfl ?_
              refine KV (R_move rfl) rfl ?_
              refine KV (R_cmp rfl rfl rfl) rfl ?_
              refine KV (R_move rfl) rfl ?_
              refine K_split ?_ ?_
              ·
                intro h54
                refine K_gyes rfl rfl ?_
                refine KV (R_move rfl) rfl ?_
                refine K_gyes rfl rfl ?_
                refine KV (R_move rfl) rfl ?_
                refine K_gyes rfl rfl ?_
                refine KV (R_cmp rfl rfl rfl) rfl ?_
                refine KV (R_pickT rfl rfl) rfl ?_
                refine KV (R_assign rfl) rfl ?_
                refine K_nil ?_
                refine Q_then ?_
                refine K_ret ?_
                refine Q_then_ret ?_
                refine results_gen (rs := [.tmp 6]) (vs := [_]) rfl ⟨rfl, trivial⟩ ?_
                first | rfl | exact congrArg Value.bool (decide_eq_true (hiE.trans htE)) | exact congrArg Value.bool (decide_eq_true rfl)
              ·
                intro h54
                exact absurd (hrE.trans htE) h54
            ·
              have hte0 : turnErr a rk = 0 := htE.trans (Decidable.not_not.1 h50)
              have hvW := hvA.trans (hv6.trans hvC)
              have hae0 : auErr a = 0 := by
                unfold turnErr at hte0
                split at hte0
                · rename_i h; exact absurd hte0 h
                · rename_i h; exact Decidable.not_not.1 h
              have hok := AuOk.of hae0
              have hrk0 : ranksErr rk = 0 := by unfold turnErr at hte0; rw [if_neg (not_not_intro hae0)] at hte0; exact hte0
              refine K_skip ?_
              refine Q_then ?_
              refine K_seq ?_
              refine K_seq ?_
              refine K_region ?_
              refine KV (R_move rfl) rfl ?_
              refine KV (R_fieldAddr 0 fd42_0 rfl) rfl ?_
              refine KV (R_loadO ty25 2 rfl rfl rfl rfl (fun _ => rfl) rfl) rfl ?_
              refine KV (R_move rfl) rfl ?_
              refine K_call c2025 rfl rfl (maps32_spec l a.ranks rk _ _ _ _ (hl.mono hvW) (ha.mono hvW).r (hk.mono hvW) (by omega)) ?_
              rintro _ V9 hv9 rfl
              have hB9 := hB.mono (hv5.trans (hv6.trans (hvC.trans hv9)))
              have hvY := hvW.trans hv9
              refine K_nil ?_
              refine Q_then ?_
              refine K_ifB rfl (fun hmt => ?_) (fun hmt => ?_)
              ·
                have hr0 : relErr a l rk = 0 := by unfold relErr; rw [if_neg (not_not_intro hte0), if_pos hmt]
                obtain rfl := b0 hr0
                refine K_seq ?_
                refine K_regionD (fin := false) (R := [0, 1, 2, 3, 4, 5, 6, 7, 8, 9, 10]) (by kernel_rfl) mixed (.cons_cons _ (.cons_cons _ (.cons_cons _ (List.nil_sublist _)))) ?_
                refine D_val rfl rfl rfl (R_move rfl) ?_
                refine D_val rfl rfl rfl (R_cmp rfl rfl rfl) ?_
                refine D_val rfl rfl rfl (R_move rfl) ?_
                refine D_split ?_ ?_
                ·
                  intro h66
                  exact absurd hr0 h66
                ·
                  intro h66
                  refine D_val rfl rfl rfl (R_loadW ty50 1 rfl rfl rfl rfl) ?_
                  refine D_val rfl rfl rfl (R_loadW ty42 2 rfl rfl rfl rfl) ?_
                  refine D_val rfl rfl rfl (R_move rfl) ?_
                  refine D_val rfl rfl rfl (R_move rfl) ?_
                  refine D_call rfl rfl c2026 rfl ⟨⟨0, rfl⟩, ⟨1, rfl⟩, ⟨2, rfl⟩, trivial⟩ (image_spec a l rk _ _ _ _ _ V9 (ha.mono hvY) (hl.mono hvY) (hk.mono hvY) hll hkl hok hmt) ?_
                  rintro _ V10 hv10 ⟨i1, i2, i3, rfl, hI⟩
                  have hIok := imgA_ok hok hrk0 hmt
                  rw [sortedM_norm hIok] at hI
                  refine D_call rfl rfl c2021 rfl ⟨⟨0, rfl⟩, ⟨1, rfl⟩, ⟨2, rfl⟩, trivial⟩ (alike_spec (normA (imgA a l rk)) (normA (imgA a l rk)) _ _ _ _ _ _ V10 (hB9.mono hv10) hI (normA_ok hIok) (normA_ok hIok) (norm_idem _) (sameM_self _)) ?_
                  rintro _ V11 hv11 rfl
                  have hvZ := hvY.trans (hv10.trans hv11)
                  have hCZ := hC.mono (hvC.trans (hv9.trans (hv10.trans hv11)))
                  refine D_val rfl rfl rfl (R_not rfl) ?_
                  refine D_val rfl rfl rfl (R_pickF rfl rfl) ?_
                  refine D_done ?_
                  refine Q_then ?_
                  refine K_ifB rfl (fun h74 => ?_) (fun h74 => ?_)
                  ·
                    cases h74
                  ·
                    refine K_skip ?_
                    refine Q_then ?_
                    refine K_seq ?_
                    refine K_seq ?_
                    refine K_region ?_
                    refine KV (R_move rfl) rfl ?_
                    refine KV (R_move rfl) rfl ?_
                    refine KV (R_fieldAddr 0 fd42_0 rfl) rfl ?_
                    refine KV (R_loadO ty25 2 rfl rfl rfl rfl (fun _ => rfl) rfl) rfl ?_
                    refine K_call c2025 rfl rfl (maps32_spec l rk a.ranks _ _ _ _ (hl.mono hvZ) (hk.mono hvZ) (ha.mono hvZ).r (by omega)) ?_
                    rintro _ V12 hv12 rfl
                    have hvZ2 := hvZ.trans hv12
                    refine K_nil ?_
                    refine Q_then ?_
                    refine K_ifB rfl (fun hmb => ?_) (fun hmb => ?_)
                    ·
                      have hi0 : invErr a l rk = 0 := by unfold invErr; rw [if_neg (not_not_intro hte0), if_pos hmb]
                      obtain rfl := dA0 hi0
                      refine K_seq ?_
                      refine K_regionD (fin := false) (R := [0, 1, 2, 3, 4, 5, 6, 7, 8, 9, 10]) (by kernel_rfl) mixed (.cons_cons _ (.cons_cons _ (.cons_cons _ (List.nil_sublist _)))) ?_
                      refine D_val rfl rfl rfl (R_move rfl) ?_
                      refine D_val rfl rfl rfl (R_cmp rfl rfl rfl) ?_
                      refine D_val rfl rfl rfl (R_move rfl) ?_
                      refine D_split ?_ ?_
                      ·
                        intro h89
                        refine D_val rfl rfl rfl (R_loadW ty50 0 rfl rfl rfl rfl) ?_
                        refine D_val rfl rfl rfl (R_loadW ty42 2 rfl rfl rfl rfl) ?_
                        refine D_val rfl rfl rfl (R_move rfl) ?_
                        refine D_val rfl rfl rfl (R_move rfl) ?_
                        refine D_call rfl rfl c2027 rfl ⟨⟨0, rfl⟩, ⟨1, rfl⟩, ⟨2, rfl⟩, trivial⟩ (back_spec32 a l rk _ _ _ _ _ V12 (ha.mono hvZ2) (hl.mono hvZ2) (hk.mono hvZ2) hll hkl hok hmb hlb) ?_
                        rintro _ V13 hv13 ⟨j1, j2, j3, rfl, hJ⟩
                        have hJok := backA_ok hok hrk0 hmb hlb
                        rw [sortedM_norm hJok] at hJ
                        refine D_call rfl rfl c2021 rfl ⟨⟨0, rfl⟩, ⟨1, rfl⟩, ⟨2, rfl⟩, trivial⟩ (alike_spec (normA (backA a l rk)) (normA (backA a l rk)) _ _ _ _ _ _ V13 (hCZ.mono (hv12.trans hv13)) hJ (normA_ok hJok) (normA_ok hJok) (norm_idem _) (sameM_self _)) ?_
                        rintro _ V14 hv14 rfl
                        refine D_val rfl rfl rfl (R_pickT rfl rfl) ?_
                        refine D_val rfl rfl rfl (R_assign rfl) ?_
                        refine D_done ?_
                        refine Q_then ?_
                        refine K_ret ?_
                        refine Q_then_ret ?_
                        refine results_gen (rs := [.tmp 6]) (vs := [_]) rfl ⟨rfl, trivial⟩ ?_
                        first | rfl | exact congrArg Value.bool (decide_eq_true (hiE.trans htE)) | exact congrArg Value.bool (decide_eq_true rfl)
                      ·
                        intro h89
                        exact absurd hi0 h89
                    ·
                      have hi3 : invErr a l rk = 3 := by unfold invErr; rw [if_neg (not_not_intro hte0), if_neg (by rw [hmb]; exact Bool.noConfusion)]
                      obtain rfl := dAE (by rw [hi3]; decide)
                      refine K_skip ?_
                      refine Q_then ?_
                      refine K_seq ?_
                      refine K_region ?_
                      refine KV (R_move rfl) rfl ?_
                      refine KV (R_cmp rfl rfl rfl) rfl ?_
                      refine KV (R_move rfl) rfl ?_
                      refine K_split ?_ ?_
                      ·
                        intro h99
                        refine K_gyes rfl rfl ?_
                        refine KV (R_fieldAddr 1 fd50_1 rfl) rfl ?_
                        refine K_gyes rfl rfl ?_
                        refine KV (R_loadO ty3 0 rfl rfl rfl rfl (fun _ => rfl) rfl) rfl ?_
                        refine K_gyes rfl rfl ?_
                        refine KV (R_cmp rfl rfl rfl) rfl ?_
                        refine KV (R_pickT rfl rfl) rfl ?_
                        refine KV (R_assign rfl) rfl ?_
                        refine K_nil ?_
                        refine Q_then ?_
                        refine K_ret ?_
                        refine results_gen (rs := [.tmp 6]) (vs := [_]) rfl ⟨rfl, trivial⟩ ?_
                        first | rfl | exact congrArg Value.bool (decide_eq_true (hiE.trans htE)) | exact congrArg Value.bool (decide_eq_true rfl)
                      ·
                        intro h99
                        exact absurd hi3 h99
              ·
                have hr3 : relErr a l rk = 3 := by unfold relErr; rw [if_neg (not_not_intro hte0), if_neg (by rw [hmt]; exact Bool.noConfusion)]
                obtain rfl := bE (by rw [hr3]; decide)
                have hvZ := hvY
                have hCZ := hC.mono (hvC.trans hv9)
                refine K_seq ?_
                refine K_region ?_
                refine KV (R_move rfl) rfl ?_
                refine KV (R_cmp rfl rfl rfl) rfl ?_
                refine KV (R_move rfl) rfl ?_
                refine K_split ?_ ?_
                ·
                  intro h77
                  exact absurd hr3 h77
                ·
                  intro h77
                  refine K_gyes rfl rfl ?_
                  refine KV (R_fieldAddr 1 fd50_1 rfl) rfl ?_
                  refine K_gyes rfl rfl ?_
                  refine KV (R_loadO ty3 1 rfl rfl rfl rfl (fun _ => rfl) rfl) rfl ?_
                  refine K_gyes rfl rfl ?_
                  refine KV (R_cmp rfl rfl rfl) rfl ?_
                  refine KV (R_pickF rfl rfl) rfl ?_
                  refine K_nil ?_
                  refine Q_then ?_
                  refine K_if rfl (fun h81 => ?_) (fun h81 => ?_)
                  ·
                    exact absurd rfl h81
                  ·
                    refine K_skip ?_
                    refine Q_then ?_
                    refine K_seq ?_
                    refine K_seq ?_
                    refine K_region ?_
                    refine KV (R_move rfl) rfl ?_
                    refine KV (R_move rfl) rfl ?_
                    refine KV (R_fieldAddr 0 fd42_0 rfl) rfl ?_
                    refine KV (R_loadO ty25 2 rfl rfl rfl rfl (fun _ => rfl) rfl) rfl ?_
                    refine K_call c2025 rfl rfl (maps32_spec l rk a.ranks _ _ _ _ (hl.mono hvZ) (hk.mono hvZ) (ha.mono hvZ).r (by omega)) ?_
                    rintro _ V12 hv12 rfl
                    have hvZ2 := hvZ.trans hv12
                    refine K_nil ?_
                    refine Q_then ?_
                    refine K_ifB rfl (fun hmb => ?_) (fun hmb => ?_)
                    ·
                      have hi0 : invErr a l rk = 0 := by unfold invErr; rw [if_neg (not_not_intro hte0), if_pos hmb]
                      obtain rfl := dA0 hi0
                      refine K_seq ?_
                      refine K_regionD (fin := false) (R := [0, 1, 2, 3, 4, 5, 6, 7, 8, 9, 10]) (by kernel_rfl) mixed (.cons_cons _ (.cons_cons _ (.cons_cons _ (List.nil_sublist _)))) ?_
                      refine D_val rfl rfl rfl (R_move rfl) ?_
                      refine D_val rfl rfl rfl (R_cmp rfl rfl rfl) ?_
                      refine D_val rfl rfl rfl (R_move rfl) ?_
                      refine D_split ?_ ?_
                      ·
                        intro h89
                        refine D_val rfl rfl rfl (R_loadW ty50 0 rfl rfl rfl rfl) ?_
                        refine D_val rfl rfl rfl (R_loadW ty42 2 rfl rfl rfl rfl) ?_
                        refine D_val rfl rfl rfl (R_move rfl) ?_
                        refine D_val rfl rfl rfl (R_move rfl) ?_
                        refine D_call rfl rfl c2027 rfl ⟨⟨0, rfl⟩, ⟨1, rfl⟩, ⟨2, rfl⟩, trivial⟩ (back_spec32 a l rk _ _ _ _ _ V12 (ha.mono hvZ2) (hl.mono hvZ2) (hk.mono hvZ2) hll hkl hok hmb hlb) ?_
                        rintro _ V13 hv13 ⟨j1, j2, j3, rfl, hJ⟩
                        have hJok := backA_ok hok hrk0 hmb hlb
                        rw [sortedM_norm hJok] at hJ
                        refine D_call rfl rfl c2021 rfl ⟨⟨0, rfl⟩, ⟨1, rfl⟩, ⟨2, rfl⟩, trivial⟩ (alike_spec (normA (backA a l rk)) (normA (backA a l rk)) _ _ _ _ _ _ V13 (hCZ.mono (hv12.trans hv13)) hJ (normA_ok hJok) (normA_ok hJok) (norm_idem _) (sameM_self _)) ?_
                        rintro _ V14 hv14 rfl
                        refine D_val rfl rfl rfl (R_pickT rfl rfl) ?_
                        refine D_val rfl rfl rfl (R_assign rfl) ?_
                        refine D_done ?_
                        refine Q_then ?_
                        refine K_ret ?_
                        refine Q_then_ret ?_
                        refine results_gen (rs := [.tmp 6]) (vs := [_]) rfl ⟨rfl, trivial⟩ ?_
                        first | rfl | exact congrArg Value.bool (decide_eq_true (hiE.trans htE)) | exact congrArg Value.bool (decide_eq_true rfl)
                      ·
                        intro h89
                        exact absurd hi0 h89
                    ·
                      have hi3 : invErr a l rk = 3 := by unfold invErr; rw [if_neg (not_not_intro hte0), if_neg (by rw [hmb]; exact Bool.noConfusion)]
                      obtain rfl := dAE (by rw [hi3]; decide)
                      refine K_skip ?_
                      refine Q_then ?_
                      refine K_seq ?_
                      refine K_region ?_
                      refine KV (R_move rfl) rfl ?_
                      refine KV (R_cmp rfl rfl rfl) rfl ?_
                      refine KV (R_move rfl) rfl ?_
                      refine K_split ?_ ?_
                      ·
                        intro h99
                        refine K_gyes rfl rfl ?_
                        refine KV (R_fieldAddr 1 fd50_1 rfl) rfl ?_
                        refine K_gyes rfl rfl ?_
                        refine KV (R_loadO ty3 0 rfl rfl rfl rfl (fun _ => rfl) rfl) rfl ?_
                        refine K_gyes rfl rfl ?_
                        refine KV (R_cmp rfl rfl rfl) rfl ?_
                        refine KV (R_pickT rfl rfl) rfl ?_
                        refine KV (R_assign rfl) rfl ?_
                        refine K_nil ?_
                        refine Q_then ?_
                        refine K_ret ?_
                        refine results_gen (rs := [.tmp 6]) (vs := [_]) rfl ⟨rfl, trivial⟩ ?_
                        first | rfl | exact congrArg Value.bool (decide_eq_true (hiE.trans htE)) | exact congrArg Value.bool (decide_eq_true rfl)
                      ·
                        intro h99
                        exact absurd hi3 h99
end Go.Proofs.X
