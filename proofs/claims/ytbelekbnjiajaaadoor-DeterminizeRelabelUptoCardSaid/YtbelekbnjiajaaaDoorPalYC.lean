/-
  Part of the proof: contracts of the functions that the statements reach. Own work. No statement of the seat is proved here.
-/
import Derived.Test.YtbelekbnjiajaaaDoorPalYB
import Derived.Test.YtbelekbnjiajaaaDoorProg
namespace Go.Proofs.X
open Go Pal Go.Proofs
attribute [local irreducible] Pal.KO Pal.KC Pal.KQ Pal.KD
theorem ty87 : Ty Tryd.prog 87 false 1 := .of (by kernel_rfl)
theorem ty90 : Ty Tryd.prog 90 false 1 := .of (by kernel_rfl)
theorem ty91 : Ty Tryd.prog 91 false 1 := .of (by kernel_rfl)
theorem ty92 : Ty Tryd.prog 92 false 1 := .of (by kernel_rfl)
theorem ty93 : Ty Tryd.prog 93 false 1 := .of (by kernel_rfl)
theorem ty106 : Ty Tryd.prog 106 true 3 := .of (by kernel_rfl)
theorem sl90 : slcOk Tryd.prog 90 48 := by unfold slcOk; kernel_rfl
theorem sl92 : slcOk Tryd.prog 92 98 := by unfold slcOk; kernel_rfl
theorem fd95_0 : fldOk Tryd.prog 95 0 0 = true := by kernel_rfl
theorem fd95_1 : fldOk Tryd.prog 95 1 4 = true := by kernel_rfl
theorem fd95_2 : fldOk Tryd.prog 95 2 5 = true := by kernel_rfl
theorem fd95_3 : fldOk Tryd.prog 95 3 6 = true := by kernel_rfl
theorem fd95_4 : fldOk Tryd.prog 95 4 7 = true := by kernel_rfl
theorem fd106_1 : fldOk Tryd.prog 106 1 1 = true := by kernel_rfl
theorem fd106_2 : fldOk Tryd.prog 106 2 2 = true := by kernel_rfl
theorem z106 : zeroOk Tryd.prog 106 (.agg #[.int .i64 0, .int .i64 0, .int .i64 0]) := .of (by kernel_rfl)
theorem pl106 : placesOk Tryd.prog 106 [(0, 1), (1, 1), (2, 1)] := ⟨_, Tryd.underlying106, by kernel_rfl⟩
theorem c48 : callable Tryd.prog 48 = true := by kernel_rfl
theorem c50 : callable Tryd.prog 50 = true := by kernel_rfl
theorem c102 : callable Tryd.prog 102 = true := by kernel_rfl
theorem c103 : callable Tryd.prog 103 = true := by kernel_rfl
theorem c116 : callable Tryd.prog 116 = true := by kernel_rfl
theorem c120 : callable Tryd.prog 120 = true := by kernel_rfl
theorem ap92 : App Tryd.prog 92 98 16 128 := .of sl92 (by kernel_rfl)
theorem mt91 : Tryd.prog.underlying 91 = some (.map 98 3) := by kernel_rfl
theorem mt93 : Tryd.prog.underlying 93 = some (.map 106 3) := by kernel_rfl
theorem key_spec (sym : Int) (args : List Int) (v : Value) (H : View) (hv : SI H v args) : Sat Tryd.prog 50 #[.int .i64 sym, v] H (fun r _ => r = keyV (keyM sym args)) := by
  obtain ⟨a, cp, rfl⟩ := hv.shape
  refine enterO (n := 23) (args := [.int .i64 sym, .slice a args.length cp]) Tryd.func50 rfl rfl rfl fun w0 => ?_
  refine K_seq ?_
  refine K_region ?_
  refine KA (A_alloc z106) rfl fun b4 => ?_
  refine K_nil ?_
  refine Q_then ?_
  refine K_seq ?_
  refine K_region ?_
  refine KV (R_move rfl) rfl ?_
  refine KV (R_build z106 pl106 rfl rfl) rfl ?_
  refine KA (A_alloc z106) rfl fun b5 => ?_
  refine K_store ty106 0 rfl rfl rfl rfl rfl rfl ?_
  refine K_nil ?_
  refine Q_then ?_
  refine K_seq ?_
  refine K_seq ?_
  refine K_region ?_
  refine KV (R_move rfl) rfl ?_
  refine KV (R_len sl25 rfl) rfl ?_
  refine KV (R_cmp rfl rfl rfl) rfl ?_
  refine K_nil ?_
  refine Q_then ?_
  refine K_if rfl (fun h10 => ?_) (fun h10 => ?_)
  ·
    have hl0 : 0 < args.length := by omega
    obtain ⟨tb, to_, rfl, hta⟩ := hv.get hl0
    refine K_region ?_
    refine KV (R_move rfl) rfl ?_
    refine KV (R_index sl25 ty3 rfl rfl ⟨by omega, by omega⟩) rfl ?_
    refine KV (R_loadH ty3 rfl (hta) rfl (fun _ => rfl) rfl) rfl ?_
    refine KV (R_fieldAddr 1 fd106_1 rfl) rfl ?_
    refine K_store ty3 0 rfl rfl rfl rfl rfl rfl ?_
    refine K_nil ?_
    refine Q_then ?_
    refine K_seq ?_
    refine K_seq ?_
    refine K_region ?_
    refine KV (R_move rfl) rfl ?_
    refine KV (R_len sl25 rfl) rfl ?_
    refine KV (R_cmp rfl rfl rfl) rfl ?_
    refine K_nil ?_
    refine Q_then ?_
    refine K_if rfl (fun h17 => ?_) (fun h17 => ?_)
    ·
      have hl1 : 1 < args.length := by omega
      obtain ⟨tb2, to2, he2, htb⟩ := hv.get hl1
      cases he2
      refine K_region ?_
      refine KV (R_move rfl) rfl ?_
      refine KV (R_index sl25 ty3 rfl rfl ⟨by omega, by omega⟩) rfl ?_
      refine KV (R_loadH ty3 rfl (htb) rfl (fun _ => rfl) rfl) rfl ?_
      refine KV (R_fieldAddr 2 fd106_2 rfl) rfl ?_
      refine K_store ty3 0 rfl rfl rfl rfl rfl rfl ?_
      refine K_nil ?_
      refine Q_then ?_
      refine K_seq ?_
      refine K_region ?_
      refine KV (R_loadO ty106 0 rfl rfl rfl rfl (fun e => by cases e) rfl) rfl ?_
      refine K_store ty106 1 rfl rfl rfl rfl rfl rfl ?_
      refine K_nil ?_
      refine Q_then ?_
      refine K_ret ?_
      refine results_gen (rs := [.cell 4 106]) (vs := [_]) rfl ⟨⟨_, _, _, _, _, _, 1, rfl, rfl, ty106, (fun e => by cases e), rfl, rfl⟩, trivial⟩ ?_
      show Value.agg #[.int .i64 sym, .int .i64 args[0], .int .i64 args[1]] = _
      simp [keyV, keyM, List.getD, hl0, hl1]
    ·
      refine K_skip ?_
      refine Q_then ?_
      refine K_seq ?_
      refine K_region ?_
      refine KV (R_loadO ty106 0 rfl rfl rfl rfl (fun e => by cases e) rfl) rfl ?_
      refine K_store ty106 1 rfl rfl rfl rfl rfl rfl ?_
      refine K_nil ?_
      refine Q_then ?_
      refine K_ret ?_
      refine results_gen (rs := [.cell 4 106]) (vs := [_]) rfl ⟨⟨_, _, _, _, _, _, 1, rfl, rfl, ty106, (fun e => by cases e), rfl, rfl⟩, trivial⟩ ?_
      show Value.agg #[.int .i64 sym, .int .i64 args[0], .int .i64 0] = _
      have hl1 : args.length ≤ 1 := by omega
      simp [keyV, keyM, List.getD, hl0, hl1]
  ·
    refine K_skip ?_
    refine Q_then ?_
    refine K_seq ?_
    refine K_seq ?_
    refine K_region ?_
    refine KV (R_move rfl) rfl ?_
    refine KV (R_len sl25 rfl) rfl ?_
    refine KV (R_cmp rfl rfl rfl) rfl ?_
    refine K_nil ?_
    refine Q_then ?_
    refine K_if rfl (fun h17 => ?_) (fun h17 => ?_)
    ·
      have hl1 : 1 < args.length := by omega
      obtain ⟨tb2, to2, he2, htb⟩ := hv.get hl1
      cases he2
      refine K_region ?_
      refine KV (R_move rfl) rfl ?_
      refine KV (R_index sl25 ty3 rfl rfl ⟨by omega, by omega⟩) rfl ?_
      refine KV (R_loadH ty3 rfl (htb) rfl (fun _ => rfl) rfl) rfl ?_
      refine KV (R_fieldAddr 2 fd106_2 rfl) rfl ?_
      refine K_store ty3 0 rfl rfl rfl rfl rfl rfl ?_
      refine K_nil ?_
      refine Q_then ?_
      refine K_seq ?_
      refine K_region ?_
      refine KV (R_loadO ty106 0 rfl rfl rfl rfl (fun e => by cases e) rfl) rfl ?_
      refine K_store ty106 1 rfl rfl rfl rfl rfl rfl ?_
      refine K_nil ?_
      refine Q_then ?_
      refine K_ret ?_
      refine results_gen (rs := [.cell 4 106]) (vs := [_]) rfl ⟨⟨_, _, _, _, _, _, 1, rfl, rfl, ty106, (fun e => by cases e), rfl, rfl⟩, trivial⟩ ?_
      omega
    ·
      refine K_skip ?_
      refine Q_then ?_
      refine K_seq ?_
      refine K_region ?_
      refine KV (R_loadO ty106 0 rfl rfl rfl rfl (fun e => by cases e) rfl) rfl ?_
      refine K_store ty106 1 rfl rfl rfl rfl rfl rfl ?_
      refine K_nil ?_
      refine Q_then ?_
      refine K_ret ?_
      refine results_gen (rs := [.cell 4 106]) (vs := [_]) rfl ⟨⟨_, _, _, _, _, _, 1, rfl, rfl, ty106, (fun e => by cases e), rfl, rfl⟩, trivial⟩ ?_
      show Value.agg #[.int .i64 sym, .int .i64 0, .int .i64 0] = _
      have hl0 : args = [] := List.eq_nil_of_length_eq_zero (by omega)
      subst hl0
      rfl

theorem succ_spec (a : Au) (subs : List Nat) (sym : Nat) (args : List Int) (B m1 m2 : Nat) (vr vu vf vrules vsub v : Value) (H : View) (hby : RepBy H a vrules) (hvs : subsV vsub subs.length) (hv : SI H v args) (hsym : sym < a.ranks.length)
    (hrl : a.ranks.length ≤ 1099511627776) (hul : (rulesOf a sym).length ≤ 1099511627776) (hral : ∀ r ∈ rulesOf a sym, r.args.length = args.length) (har : ∀ x ∈ args, 0 ≤ x ∧ x < subs.length) :
    SatO Tryd.prog 116 #[ptr B, .int .i64 (sym : Int), v] H [blk B (.cells #[vr, .int .i64 a.states, vu, vf, vrules, mp m1, vsub, mp m2] 95 (0, 0)), row vsub 98 16 subs.length (subCells subs)]
      (fun r _ q => r = setV (succM a subs sym args) ∧ q = [blk B (.cells #[vr, .int .i64 a.states, vu, vf, vrules, mp m1, vsub, mp m2] 95 (0, 0)), row vsub 98 16 subs.length (subCells subs)]) := by
  obtain ⟨aa, acp, rfl⟩ := hv.shape
  obtain ⟨rb, ro, rcp, rfl, hrb⟩ := hby
  obtain ⟨ua, ucp, cells, hua, hus, hur⟩ := hrb sym hsym
  unfold succM
  generalize rulesOf a sym = rs at hul hral hua hus hur ⊢
  refine enterO (n := 56) (args := [ptr B, .int .i64 (sym : Int), .slice aa args.length acp]) Tryd.func116 rfl rfl rfl fun w0 => ?_
  refine K_seq ?_
  refine K_region ?_
  refine KA (A_alloc z98) rfl fun b6 => ?_
  refine K_nil ?_
  refine Q_then ?_
  refine K_seq ?_
  refine K_region ?_
  refine KA (A_alloc z98) rfl fun b7 => ?_
  refine K_nil ?_
  refine Q_then ?_
  refine K_seq ?_
  refine K_seq ?_
  refine K_region ?_
  refine KV (R_move rfl) rfl ?_
  refine KV (R_nilCheck rfl) rfl ?_
  refine KV (R_fieldAddr 4 fd95_1 rfl) rfl ?_
  refine KV (R_loadO ty90 2 rfl rfl rfl rfl (fun _ => rfl) rfl) rfl ?_
  refine KV (R_move rfl) rfl ?_
  refine KV (R_index sl90 ty48 rfl rfl ⟨by omega, by omega⟩) rfl ?_
  refine KV (R_loadH ty48 rfl (hua) rfl (fun _ => rfl) rfl) rfl ?_
  refine KV (R_len sl48 rfl) rfl ?_
  refine KV (R_move rfl) rfl ?_
  refine K_nil ?_
  refine Q_then ?_
  refine K_block ?_
  refine K_loop (G := Nat × View) ⟨fun g => [(0, ptr B), (2, .slice aa args.length acp), (6, ptr b6), (7, ptr b7), (19, .slice ua rs.length ucp), (20, .int .i64 rs.length), (21, .int .i64 (g.1 : Int))], fun g => [blk b7 (.cells (setV (succTo subs args rs g.1)).cells 98 (0, 0)), blk b6 (.cells (setV 0).cells 98 (0, 0)), blk B (.cells #[vr, .int .i64 a.states, vu, vf, .slice (some ⟨rb, ro, none⟩) a.ranks.length rcp, mp m1, vsub, mp m2] 95 (0, 0)), row vsub 98 16 subs.length (subCells subs)], fun g => g.2, fun g => g.1 ≤ rs.length ∧ VLe H g.2, fun g => rs.length - g.1⟩ (0, H) ⟨Nat.zero_le _, VLe.refl H⟩ ⟨rfl, rfl, rfl, rfl, rfl, rfl, rfl, trivial⟩ rfl rfl ?_
  rintro ⟨k, V⟩ ⟨hk, hV⟩
  dsimp only at hk hV ⊢
  refine K_seq ?_
  refine K_region ?_
  refine KV (R_cmp rfl rfl rfl) rfl ?_
  refine K_nil ?_
  refine Q_then ?_
  refine K_seq ?_
  refine K_if rfl (fun h22 => ?_) (fun h22 => ?_)
  ·
    have hk' : k < rs.length := by omega
    obtain ⟨ub, uo, fa, fcp, rfl, hrc, hfs, hsy, hto, hfl⟩ := rules_elem (hus.mono hV) (RepR.imp3 hV hur) hk'
    have hra := hral _ (List.getElem_mem hk')
    refine K_skip ?_
    refine Q_then ?_
    refine K_seq ?_
    refine K_block ?_
    refine K_seq ?_
    refine K_region ?_
    refine KV (R_indexN sl48 ty85 rfl rfl (by omega)) rfl ?_
    refine KV (R_loadH ty85 rfl (hrc) rfl (fun e => by cases e) rfl) rfl ?_
    refine KA (A_alloc z85) rfl fun b9 => ?_
    refine K_store ty85 0 rfl rfl rfl rfl rfl rfl ?_
    refine K_nil ?_
    refine Q_then ?_
    refine K_seq ?_
    refine K_region ?_
    refine KV (R_assign rfl) rfl ?_
    refine K_nil ?_
    refine Q_then ?_
    refine K_seq ?_
    refine K_seq ?_
    refine K_region ?_
    refine KV (R_fieldAddr 1 fd85_1 rfl) rfl ?_
    refine KV (R_loadO ty25 0 rfl rfl rfl rfl (fun _ => rfl) rfl) rfl ?_
    refine KV (R_len sl25 rfl) rfl ?_
    refine KV (R_move rfl) rfl ?_
    refine K_nil ?_
    refine Q_then ?_
    refine K_block ?_
    refine K_loop (G := Nat × View) ⟨fun g => [(0, ptr B), (2, .slice aa args.length acp), (6, ptr b6), (7, ptr b7), (19, .slice (some ⟨ub, uo, none⟩) rs.length ucp), (20, .int .i64 rs.length), (21, .int .i64 (k : Int)), (9, ptr b9), (10, .bool (fitsTo subs args rs[k].args g.1)), (26, .slice fa rs[k].args.length fcp), (27, .int .i64 rs[k].args.length), (28, .int .i64 (g.1 : Int))], fun g => [blk b9 (.cells #[.int .i64 rs[k].sym, .slice fa rs[k].args.length fcp, .int .i64 rs[k].to] 85 (0, 0)), blk b7 (.cells (setV (succTo subs args rs k)).cells 98 (0, 0)), blk b6 (.cells (setV 0).cells 98 (0, 0)), blk B (.cells #[vr, .int .i64 a.states, vu, vf, .slice (some ⟨rb, ro, none⟩) a.ranks.length rcp, mp m1, vsub, mp m2] 95 (0, 0)), row vsub 98 16 subs.length (subCells subs)], fun g => g.2, fun g => g.1 ≤ rs[k].args.length ∧ VLe V g.2, fun g => rs[k].args.length - g.1⟩ (0, V) ⟨Nat.zero_le _, VLe.refl V⟩ ⟨rfl, rfl, rfl, rfl, rfl, rfl, rfl, rfl, rfl, rfl, rfl, rfl, trivial⟩ rfl rfl ?_
    rintro ⟨j, V1⟩ ⟨hj, hle1⟩
    dsimp only at hj hle1 ⊢
    refine K_seq ?_
    refine K_region ?_
    refine KV (R_cmp rfl rfl rfl) rfl ?_
    refine K_nil ?_
    refine Q_then ?_
    refine K_seq ?_
    refine K_if rfl (fun h29 => ?_) (fun h29 => ?_)
    ·
      have hj' : j < rs[k].args.length := by omega
      obtain ⟨fb, fo, rfl, hfc⟩ := (hfs.mono hle1).get hj'
      refine K_skip ?_
      refine Q_then ?_
      refine K_seq ?_
      refine K_block ?_
      refine K_seq ?_
      refine K_region ?_
      refine KV (R_move rfl) rfl ?_
      refine KV (R_indexN sl25 ty3 rfl rfl (by omega)) rfl ?_
      refine KV (R_loadH ty3 rfl (hfc) rfl (fun _ => rfl) rfl) rfl ?_
      refine KV (R_assign rfl) rfl ?_
      refine KV (R_assign rfl) rfl ?_
      refine K_nil ?_
      refine Q_then ?_
      refine K_regionD (fin := false) (R := [0, 1, 2, 3, 4, 5, 6, 7, 8, 9, 10, 11, 12, 13, 14, 15]) (by kernel_rfl) mixed (.cons _ (.cons _ (.cons _ (.cons_cons _ (.cons_cons _ (List.nil_sublist _)))))) ?_
      refine D_val rfl rfl rfl (R_move rfl) ?_
      refine D_val rfl rfl rfl (R_move rfl) ?_
      refine D_splitB ?_ ?_
      ·
        intro h34
        have hja : j < args.length := by omega
        obtain ⟨ab, ao, rfl, hac⟩ := (hv.mono (hV.trans hle1)).get hja
        have hx := har _ (List.getElem_mem hja)
        have hlt : args[j].toNat < subs.length := by omega
        have hidx : 0 ≤ args[j] ∧ args[j] < (subs.length : Int) := hx
        obtain ⟨sg, scp, rfl⟩ : ∃ g cap, vsub = .slice (some ⟨g, 0, none⟩) subs.length cap := by
          rcases hvs with ⟨_, h0⟩ | h
          · omega
          · exact h
        refine D_val rfl rfl rfl (R_move rfl) ?_
        refine D_val rfl rfl rfl (R_nilCheck rfl) ?_
        refine D_val rfl rfl rfl (R_fieldAddr 6 fd95_3 rfl) ?_
        refine D_val rfl rfl rfl (R_loadO ty92 0 rfl rfl rfl rfl (fun _ => rfl) rfl) ?_
        refine D_val rfl rfl rfl (R_move rfl) ?_
        refine D_val rfl rfl rfl (R_move rfl) ?_
        refine D_val rfl rfl rfl (R_indexN sl25 ty3 rfl rfl hja) ?_
        refine D_val rfl rfl rfl (R_loadH ty3 rfl (hac) rfl (fun _ => rfl) rfl) ?_
        refine D_val rfl rfl rfl (R_index sl92 ty98 rfl rfl hidx) ?_
        refine D_val rfl rfl rfl (R_loadRow (v := setV subs[args[j].toNat]) ty98 1 rfl rfl rfl (by rw [Nat.zero_add]; exact subCells_get hlt) rfl (fun e => by cases e) rfl) ?_
        refine D_val rfl rfl rfl (R_move rfl) ?_
        refine D_call rfl rfl c120 rfl ⟨⟨3, rfl⟩, ⟨4, rfl⟩, trivial⟩ (has_spec subs[args[j].toNat] rs[k].args[j] V1) ?_
        rintro _ V2 hle2 rfl
        refine D_val rfl rfl rfl (R_pickT rfl rfl) ?_
        refine D_val rfl rfl rfl (R_assign rfl) ?_
        refine D_done ?_
        refine Q_block ?_
        refine Q_then ?_
        refine K_region ?_
        refine KV (R_add rfl rfl (by omega)) rfl ?_
        refine KV (R_move rfl) rfl ?_
        refine K_nil ?_
        refine Q_next (j + 1, V2) ⟨hj', hle1.trans hle2⟩ (by dsimp only; omega) ⟨rfl, rfl, rfl, rfl, rfl, rfl, rfl, rfl, congrArg (fun z => some (Value.bool z)) (fitsTo_true h34 hja hj' hlt).symm, rfl, rfl, rfl, trivial⟩ rfl rfl
      ·
        intro h34
        refine D_skip rfl rfl ?_
        refine D_skip rfl rfl ?_
        refine D_skip rfl rfl ?_
        refine D_skip rfl rfl ?_
        refine D_skip rfl rfl ?_
        refine D_skip rfl rfl ?_
        refine D_skip rfl rfl ?_
        refine D_skip rfl rfl ?_
        refine D_skip rfl rfl ?_
        refine D_skip rfl rfl ?_
        refine D_skip rfl rfl ?_
        refine D_skip rfl rfl ?_
        refine D_val rfl rfl rfl (R_pickF rfl rfl) ?_
        refine D_val rfl rfl rfl (R_assign rfl) ?_
        refine D_done ?_
        refine Q_block ?_
        refine Q_then ?_
        refine K_region ?_
        refine KV (R_add rfl rfl (by omega)) rfl ?_
        refine KV (R_move rfl) rfl ?_
        refine K_nil ?_
        refine Q_next (j + 1, V1) ⟨hj', hle1⟩ (by dsimp only; omega) ⟨rfl, rfl, rfl, rfl, rfl, rfl, rfl, rfl, congrArg (fun z => some (Value.bool z)) (fitsTo_false h34).symm, rfl, rfl, rfl, trivial⟩ rfl rfl
    ·
      have hj' : j = rs[k].args.length := by omega
      subst hj'
      refine K_exit ?_
      refine Q_then_exit ?_
      refine Q_then_exit ?_
      refine Q_block_exit ?_
      refine Q_then ?_
      refine K_seq ?_
      refine K_region ?_
      refine KV (R_move rfl) rfl ?_
      refine K_nil ?_
      refine Q_then ?_
      refine K_ifB rfl (fun h49 => ?_) (fun h49 => ?_)
      ·
        refine K_region ?_
        refine KV (R_loadW ty98 1 rfl rfl rfl rfl) rfl ?_
        refine KV (R_fieldAddr 2 fd85_2 rfl) rfl ?_
        refine KV (R_loadO ty3 0 rfl rfl rfl rfl (fun _ => rfl) rfl) rfl ?_
        refine K_call c82 rfl rfl (with_spec _ _ V1) ?_
        rintro _ V2 hle2 rfl
        refine K_storeW ty98 1 rfl rfl rfl rfl rfl rfl rfl ?_
        refine K_nil ?_
        refine Q_block ?_
        refine Q_then ?_
        refine K_region ?_
        refine KV (R_add rfl rfl (by omega)) rfl ?_
        refine KV (R_move rfl) rfl ?_
        refine K_nil ?_
        refine KQ_sel [1, 1, 1, 1] rfl ?_
        exact Q_next (k + 1, V2) ⟨hk', hV.trans (hle1.trans hle2)⟩ (by dsimp only; omega) ⟨rfl, rfl, rfl, rfl, rfl, rfl, rfl, trivial⟩ (by dsimp only; rw [succTo_yes hk' h49]; rfl) rfl
      ·
        refine K_skip ?_
        refine Q_block ?_
        refine Q_then ?_
        refine K_region ?_
        refine KV (R_add rfl rfl (by omega)) rfl ?_
        refine KV (R_move rfl) rfl ?_
        refine K_nil ?_
        refine KQ_sel [1, 1, 1, 1] rfl ?_
        exact Q_next (k + 1, V1) ⟨hk', hV.trans hle1⟩ (by dsimp only; omega) ⟨rfl, rfl, rfl, rfl, rfl, rfl, rfl, trivial⟩ (by dsimp only; rw [succTo_no hk' h49]) rfl
  ·
    have hk' : k = rs.length := by omega
    subst hk'
    refine K_exit ?_
    refine Q_then_exit ?_
    refine Q_then_exit ?_
    refine Q_block_exit ?_
    refine Q_then ?_
    refine K_seq ?_
    refine K_region ?_
    refine KV (R_loadW ty98 0 rfl rfl rfl rfl) rfl ?_
    refine K_storeW ty98 1 rfl rfl rfl rfl rfl rfl rfl ?_
    refine K_nil ?_
    refine Q_then ?_
    refine K_ret ?_
    refine results_sel [2, 2] rfl (rs := [.cell 6 98]) (vs := [_]) rfl ⟨⟨_, _, _, _, _, _, 1, rfl, rfl, ty98, (fun e => by cases e), rfl, rfl⟩, trivial⟩ ?_
    exact ⟨rfl, rfl⟩

theorem add_spec (a : Au) (st : DS) (limit : Int) (sym : Nat) (args : List Int) (B m1 m2 : Nat) (vr vu vf vrules v : Value) (H : View) (q : HL) (hq : BE B m1 m2 a vr vu vf vrules st q) (hinv : st.Inv limit) (hby : RepBy H a vrules) (hv : SI H v args)
    (hsym : sym < a.ranks.length) (hrl : a.ranks.length ≤ 1099511627776) (hul : (rulesOf a sym).length ≤ 1099511627776) (hral : ∀ r ∈ rulesOf a sym, r.args.length = args.length) (har : ∀ x ∈ args, 0 ≤ x ∧ x < st.subs.length) (hlim : limit ≤ 1048576) :
    SatO Tryd.prog 103 #[ptr B, .int .i64 (sym : Int), v, .int .i64 limit] H q
      (fun r _ q' => ∃ b : Bool, r = .bool b ∧ (b = true → ∃ st', addM a limit sym st args = some st' ∧ BE B m1 m2 a vr vu vf vrules st' q') ∧ (b = false → addM a limit sym st args = none)) := by
  obtain ⟨vsub, hvs, rfl⟩ := hq
  obtain ⟨sa, scp, rfl⟩ := hvs.shape
  obtain ⟨aa, acp, rfl⟩ := hv.shape
  have hsi : i64ok (sym : Int) := by simp only [i64ok]; omega
  have hko := keyM_ok hsi hv.2
  obtain ⟨kl, hkl⟩ := tri106.key hko
  have hsb : succM a st.subs sym args < big := succTo_big _ _ _ _
  obtain ⟨ks, hks⟩ := set98.key (succM a st.subs sym args)
  have hle := hinv.le
  refine enterO (n := 73) (args := [ptr B, .int .i64 (sym : Int), .slice aa args.length acp, .int .i64 limit]) Tryd.func103 rfl rfl rfl fun w0 => ?_
  refine K_seq ?_
  refine K_region ?_
  refine KV (R_assign rfl) rfl ?_
  refine K_nil ?_
  refine Q_then ?_
  refine K_seq ?_
  refine K_region ?_
  refine KV (R_move rfl) rfl ?_
  refine KV (R_move rfl) rfl ?_
  refine K_call c50 rfl rfl (key_spec sym args _ H hv) ?_
  rintro _ V1 hle1 rfl
  refine KA (A_alloc z106) rfl fun b9 => ?_
  refine K_storeW ty106 0 rfl rfl rfl rfl rfl rfl rfl ?_
  refine K_nil ?_
  refine Q_then ?_
  refine K_seq ?_
  refine K_seq ?_
  refine K_regionD (fin := false) (R := [0, 1, 2, 3, 4, 5, 6, 7, 8, 9, 10]) (by kernel_rfl) mixed (.cons_cons _ (.cons_cons _ (.cons_cons _ (.cons_cons _ (.cons_cons _ (List.nil_sublist _)))))) ?_
  refine D_val rfl rfl rfl (R_move rfl) ?_
  refine D_val rfl rfl rfl (R_nilCheck rfl) ?_
  refine D_val rfl rfl rfl (R_fieldAddr 7 fd95_4 rfl) ?_
  refine D_val rfl rfl rfl (R_loadO ty93 1 rfl rfl rfl rfl (fun _ => rfl) rfl) ?_
  refine D_val rfl rfl rfl (R_loadW ty106 0 rfl rfl rfl (show Value.agg _ = keyV (keyM sym args) from rfl)) ?_
  refine D_val rfl rfl rfl (R_lookup kl106 mt93 z3 4 rfl rfl rfl hkl (resKV_keys tri106 hinv.rk) (resKV_opt hinv.rn _)) ?_
  refine D_val rfl rfl rfl (R_move rfl) ?_
  refine D_val rfl rfl rfl (R_extract rfl rfl) ?_
  refine D_val rfl rfl rfl (R_extract rfl rfl) ?_
  refine D_val rfl rfl rfl (R_assign rfl) ?_
  refine D_val rfl rfl rfl (R_assign rfl) ?_
  refine D_done ?_
  refine Q_then ?_
  refine K_seq ?_
  refine K_region ?_
  refine KV (R_move rfl) rfl ?_
  refine K_nil ?_
  refine Q_then ?_
  cases hlk : lookM st.res (keyM sym args) with
  | some nn =>
    refine K_ifT rfl ?_
    refine K_seq ?_
    refine K_region ?_
    refine KV (R_assign rfl) rfl ?_
    refine K_nil ?_
    refine Q_then ?_
    refine K_ret ?_
    refine Q_then_ret ?_
    refine results_sel [1, 1, 1, 1] rfl (rs := [.tmp 8]) (vs := [_]) rfl ⟨rfl, trivial⟩ ?_
    exact ⟨true, rfl, fun _ => ⟨st, by simp [addM, hlk], _, hvs, rfl⟩, fun e => by cases e⟩
  | none =>
    refine K_ifF rfl ?_
    refine K_skip ?_
    refine Q_then ?_
    refine K_seq ?_
    refine K_region ?_
    refine KV (R_move rfl) rfl ?_
    refine KV (R_move rfl) rfl ?_
    refine KV (R_move rfl) rfl ?_
    refine KO_sel [1, 2, 0, 0, 0] rfl ?_
    refine K_callO (first := []) [_, _] [_, _, _] (List.Perm.refl _) c116 rfl rfl rfl (succ_spec a st.subs sym args B m1 m2 vr vu vf vrules _ _ V1 (hby.mono hle1) hvs (hv.mono hle1) hsym hrl hul hral har) ?_
    rintro _ V2 q hle2 ⟨rfl, rfl⟩
    refine KA (A_alloc z98) rfl fun b12 => ?_
    refine K_storeW ty98 0 rfl rfl rfl rfl rfl rfl rfl ?_
    refine K_nil ?_
    refine Q_then ?_
    refine K_seq ?_
    refine K_regionD (fin := false) (R := [0, 1, 2, 3, 4, 5, 6, 7, 8, 9, 10]) (by kernel_rfl) mixed (.cons_cons _ (.cons_cons _ (.cons_cons _ (.cons_cons _ (.cons_cons _ (.cons_cons _ (List.nil_sublist _))))))) ?_
    refine D_val rfl rfl rfl (R_move rfl) ?_
    refine D_val rfl rfl rfl (R_nilCheck rfl) ?_
    refine D_val rfl rfl rfl (R_fieldAddr 5 fd95_2 rfl) ?_
    refine D_val rfl rfl rfl (R_loadO ty91 1 rfl rfl rfl rfl (fun _ => rfl) rfl) ?_
    refine D_val rfl rfl rfl (R_loadW ty98 0 rfl rfl rfl (show Value.agg _ = setV (succM a st.subs sym args) from rfl)) ?_
    refine D_val rfl rfl rfl (R_lookup kl98 mt91 z3 4 rfl rfl rfl hks (numKV_keys set98 _) (numKV_opt hinv.nd hinv.bg hsb)) ?_
    refine D_val rfl rfl rfl (R_move rfl) ?_
    refine D_val rfl rfl rfl (R_extract rfl rfl) ?_
    refine D_val rfl rfl rfl (R_extract rfl rfl) ?_
    refine D_val rfl rfl rfl (R_assign rfl) ?_
    refine D_val rfl rfl rfl (R_assign rfl) ?_
    refine D_done ?_
    refine Q_then ?_
    refine K_seq ?_
    refine K_seq ?_
    refine K_region ?_
    refine KV (R_move rfl) rfl ?_
    refine KV (R_not rfl) rfl ?_
    refine K_nil ?_
    refine Q_then ?_
    cases hnum : numM st.subs (succM a st.subs sym args) with
    | none =>
      have hab := numKV_opt hinv.nd hinv.bg hsb
      rw [hnum] at hab
      refine K_ifT rfl ?_
      refine K_seq ?_
      refine K_region ?_
      refine KV (R_move rfl) rfl ?_
      refine KV (R_nilCheck rfl) rfl ?_
      refine KV (R_fieldAddr 6 fd95_3 rfl) rfl ?_
      refine KV (R_loadO ty92 1 rfl rfl rfl rfl (fun _ => rfl) rfl) rfl ?_
      refine KV (R_len sl92 rfl) rfl ?_
      refine KV (R_assign rfl) rfl ?_
      refine K_nil ?_
      refine Q_then ?_
      refine K_seq ?_
      refine K_seq ?_
      refine K_region ?_
      refine KV (R_move rfl) rfl ?_
      refine KV (R_move rfl) rfl ?_
      refine KV (R_cmp rfl rfl rfl) rfl ?_
      refine K_nil ?_
      refine Q_then ?_
      refine K_if rfl (fun h50 => ?_) (fun h50 => ?_)
      ·
        refine K_seq ?_
        refine K_region ?_
        refine KV (R_assign rfl) rfl ?_
        refine K_nil ?_
        refine Q_then ?_
        refine K_ret ?_
        refine Q_then_ret ?_
        refine Q_then_ret ?_
        refine results_sel [1, 3, 1, 2] rfl (rs := [.tmp 8]) (vs := [_]) rfl ⟨rfl, trivial⟩ ?_
        exact ⟨false, rfl, (fun e => by cases e), fun _ => by simp [addM, hlk, hnum, h50]⟩
      ·
        refine K_skip ?_
        refine Q_then ?_
        refine K_seq ?_
        refine K_regionD (fin := true) (R := [0, 1, 2, 3, 4, 5, 6]) (by kernel_rfl) mixed (.cons_cons _ (.cons_cons _ (.cons_cons _ (.cons_cons _ (.cons_cons _ (.cons_cons _ (List.nil_sublist _))))))) ?_
        refine D_val rfl rfl rfl (R_move rfl) ?_
        refine D_val rfl rfl rfl (R_nilCheck rfl) ?_
        refine D_val rfl rfl rfl (R_fieldAddr 5 fd95_2 rfl) ?_
        refine D_val rfl rfl rfl (R_loadO ty91 1 rfl rfl rfl rfl (fun _ => rfl) rfl) ?_
        refine D_val rfl rfl rfl (R_loadW ty98 0 rfl rfl rfl (show Value.agg _ = setV (succM a st.subs sym args) from rfl)) ?_
        refine D_val rfl rfl rfl (R_move rfl) ?_
        refine D_lastPut kl98 mt91 4 rfl rfl rfl rfl rfl rfl (hks) (numKV_keys set98 _) (hab) ?_
        refine Q_then ?_
        refine K_regionD (fin := true) (R := [0, 1, 2, 3, 4, 5, 6, 7, 8, 9, 10]) (by kernel_rfl) mixed (.cons_cons _ (.cons_cons _ (.cons _ (.cons _ (.cons _ (.cons _ (List.nil_sublist _))))))) ?_
        refine D_val rfl rfl rfl (R_move rfl) ?_
        refine D_val rfl rfl rfl (R_move rfl) ?_
        refine D_val rfl rfl rfl (R_nilCheck rfl) ?_
        refine D_val rfl rfl rfl (R_fieldAddr 6 fd95_3 rfl) ?_
        refine D_val rfl rfl rfl (R_loadO ty92 1 rfl rfl rfl rfl (fun _ => rfl) rfl) ?_
        refine D_val rfl rfl rfl (R_loadW ty98 0 rfl rfl rfl (show Value.agg _ = setV (succM a st.subs sym args) from rfl)) ?_
        refine D_alloc rfl rfl rfl (A_buildSlice (vs := [setV (succM a st.subs sym args)]) sl92 ty98 z98 rfl rfl (by intro v hv; simp only [List.mem_cons, List.not_mem_nil, or_false] at hv; subst hv; rfl) (by simp) rfl (by decide)) fun b63 => ?_
        refine D_append1 2 ap92 rfl rfl rfl rfl rfl rfl ⟨⟨0, rfl⟩, ⟨1, rfl⟩, trivial⟩ rfl rfl ⟨by omega, by omega⟩ fun a64 k64 hn64 => ?_
        refine D_val rfl rfl rfl (R_nilCheck rfl) ?_
        refine D_val rfl rfl rfl (R_fieldAddr 6 fd95_3 rfl) ?_
        refine D_lastStore ty92 2 rfl rfl rfl rfl rfl rfl rfl rfl ?_
        refine KQ_rowshape 0 rfl fun hvs2 => ?_
        refine Q_then ?_
        refine K_seq ?_
        have hrb := resKV_opt hinv.rn (keyM sym args)
        rw [hlk] at hrb
        refine K_regionD (fin := true) (R := [0, 1, 2, 3, 4, 5, 6]) (by kernel_rfl) mixed (.cons_cons _ (.cons_cons _ (.cons_cons _ (.cons_cons _ (.cons_cons _ (.cons_cons _ (List.nil_sublist _))))))) ?_
        refine D_val rfl rfl rfl (R_move rfl) ?_
        refine D_val rfl rfl rfl (R_nilCheck rfl) ?_
        refine D_val rfl rfl rfl (R_fieldAddr 7 fd95_4 rfl) ?_
        refine D_val rfl rfl rfl (R_loadO ty93 2 rfl rfl rfl rfl (fun _ => rfl) rfl) ?_
        refine D_val rfl rfl rfl (R_loadW ty106 3 rfl rfl rfl (show Value.agg _ = keyV (keyM sym args) from rfl)) ?_
        refine D_val rfl rfl rfl (R_move rfl) ?_
        refine D_lastPut kl106 mt93 5 rfl rfl rfl rfl rfl rfl (hkl) (resKV_keys tri106 hinv.rk) (hrb) ?_
        refine Q_then ?_
        refine K_seq ?_
        refine K_region ?_
        refine KV (R_assign rfl) rfl ?_
        refine K_nil ?_
        refine Q_then ?_
        refine K_ret ?_
        refine results_sel [2, 3, 0, 2] rfl (rs := [.tmp 8]) (vs := [_]) rfl ⟨rfl, trivial⟩ ?_
        refine ⟨true, rfl, fun _ => ⟨⟨st.subs ++ [succM a st.subs sym args], st.res ++ [(keyM sym args, (st.subs.length : Int))]⟩, by simp [addM, hlk, hnum, h50], _, by simpa using hvs2, ?_⟩, fun e => by cases e⟩
        simp only [numKV_snoc, subCells_snoc, resKV_snoc, List.length_append, List.length_cons, List.length_nil]
        rfl
    | some nn =>
      refine K_ifF rfl ?_
      refine K_skip ?_
      refine Q_then ?_
      refine K_seq ?_
      have hrb := resKV_opt hinv.rn (keyM sym args)
      rw [hlk] at hrb
      refine K_regionD (fin := true) (R := [0, 1, 2, 3, 4, 5, 6]) (by kernel_rfl) mixed (.cons_cons _ (.cons_cons _ (.cons_cons _ (.cons_cons _ (.cons_cons _ (.cons_cons _ (List.nil_sublist _))))))) ?_
      refine D_val rfl rfl rfl (R_move rfl) ?_
      refine D_val rfl rfl rfl (R_nilCheck rfl) ?_
      refine D_val rfl rfl rfl (R_fieldAddr 7 fd95_4 rfl) ?_
      refine D_val rfl rfl rfl (R_loadO ty93 1 rfl rfl rfl rfl (fun _ => rfl) rfl) ?_
      refine D_val rfl rfl rfl (R_loadW ty106 3 rfl rfl rfl (show Value.agg _ = keyV (keyM sym args) from rfl)) ?_
      refine D_val rfl rfl rfl (R_move rfl) ?_
      refine D_lastPut kl106 mt93 5 rfl rfl rfl rfl rfl rfl (hkl) (resKV_keys tri106 hinv.rk) (hrb) ?_
      refine Q_then ?_
      refine K_seq ?_
      refine K_region ?_
      refine KV (R_assign rfl) rfl ?_
      refine K_nil ?_
      refine Q_then ?_
      refine K_ret ?_
      refine results_sel [1, 3, 1, 2] rfl (rs := [.tmp 8]) (vs := [_]) rfl ⟨rfl, trivial⟩ ?_
      refine ⟨true, rfl, fun _ => ⟨⟨st.subs, st.res ++ [(keyM sym args, nn)]⟩, by simp [addM, hlk, hnum], _, hvs, ?_⟩, fun e => by cases e⟩
      simp only [resKV_snoc]
      rfl

theorem addc_spec (a : Au) (st : DS) (limit : Int) (sym : Nat) (args : List Int) (B m1 m2 bp bs bl : Nat) (vr vu vf vrules v : Value) (H : View) (q : HL) (hq : BE B m1 m2 a vr vu vf vrules st q) (hinv : st.Inv limit) (hby : RepBy H a vrules) (hv : SI H v args)
    (hsym : sym < a.ranks.length) (hrl : a.ranks.length ≤ 1099511627776) (hul : (rulesOf a sym).length ≤ 1099511627776) (hral : ∀ r ∈ rulesOf a sym, r.args.length = args.length) (har : ∀ x ∈ args, 0 ≤ x ∧ x < st.subs.length) (hlim : limit ≤ 1048576)
    (hbp : At H bp 0 [ptr B]) (hbs : At H bs 0 [.int .i64 (sym : Int)]) (hbl : At H bl 0 [.int .i64 limit]) :
    SatO Tryd.prog 102 #[v, ptr bp, ptr bs, ptr bl] H q
      (fun r _ q' => ∃ b : Bool, r = .bool b ∧ (b = true → ∃ st', addM a limit sym st args = some st' ∧ BE B m1 m2 a vr vu vf vrules st' q') ∧ (b = false → addM a limit sym st args = none)) := by
  obtain ⟨aa, acp, rfl⟩ := hv.shape
  refine enterO (n := 11) (args := [.slice aa args.length acp, ptr bp, ptr bs, ptr bl]) Tryd.func102 rfl rfl rfl fun w0 => ?_
  refine K_seq ?_
  refine K_region ?_
  refine KV (R_assign rfl) rfl ?_
  refine K_nil ?_
  refine Q_then ?_
  refine K_seq ?_
  refine K_region ?_
  refine KV (R_loadH ty87 rfl (hbp) rfl (fun _ => rfl) rfl) rfl ?_
  refine KV (R_loadH ty3 rfl (hbs) rfl (fun _ => rfl) rfl) rfl ?_
  refine KV (R_move rfl) rfl ?_
  refine KV (R_loadH ty3 rfl (hbl) rfl (fun _ => rfl) rfl) rfl ?_
  refine K_callO (first := []) q [] (by rw [List.append_nil]) c103 rfl rfl rfl (add_spec a st limit sym args B m1 m2 vr vu vf vrules _ H q hq hinv hby hv hsym hrl hul hral har hlim) ?_
  rintro _ V1 q1 hle1 ⟨b, rfl, hb1, hb2⟩
  refine KV (R_assign rfl) rfl ?_
  refine K_nil ?_
  refine Q_then ?_
  refine K_ret ?_
  refine results_gen (rs := [.tmp 5]) (vs := [_]) rfl ⟨rfl, trivial⟩ ?_
  refine ⟨b, rfl, ?_, hb2⟩
  rw [List.append_nil]
  exact hb1

theorem build_spec (a : Au) (haok : AuOk a) (limit : Int) (B m1 m2 : Nat) (vr vu vf vrules : Value) (H : View) (hr : SI H vr a.ranks) (hby : RepBy H a vrules) (hlim : limit ≤ 1048576) (st0 : DS) (q0 : HL) (F0 : Nat) (hq0 : BE B m1 m2 a vr vu vf vrules st0 q0) (hinv0 : st0.Inv limit) (hF0 : limit - st0.subs.length < F0) :
    SatO Tryd.prog 79 #[ptr B, .int .i64 limit] H q0 (fun r _ q' => ∃ b : Bool, r = .bool b ∧ (b = true → ∃ st', buildM a limit F0 st0 = some st' ∧ st'.Inv limit ∧ BE B m1 m2 a vr vu vf vrules st' q') ∧ (b = false → buildM a limit F0 st0 = none)) := by
  obtain ⟨ra, rcp, rfl⟩ := hr.shape
  have hrl := haok.rl
  refine enterP (n := 37) (args := [ptr B, .int .i64 limit]) Tryd.func79 rfl rfl rfl fun w0 hpass => ?_
  refine K_seq ?_
  refine K_region ?_
  refine KA (A_box rfl) rfl fun b2 => ?_
  refine KA (A_box rfl) rfl fun b3 => ?_
  refine KV (R_assign rfl) rfl ?_
  refine K_nil ?_
  refine KQ_pubblk (by intro x hx; simp only [feet_cons]; simp [hx]) fun V1 hle1 hb3 => ?_
  refine KQ_pubblk (by intro x hx; exact hx) fun V2 hle2 hb2 => ?_
  have hA2 := At.of hb2
  have hA3 := (At.of hb3).mono hle2
  have h02 := hle1.trans hle2
  refine Q_then ?_
  refine K_block ?_
  refine K_loop (G := Nat × DS × View × HL) ⟨fun g => [(2, ptr b2), (3, ptr b3)], fun g => g.2.2.2, fun g => g.2.2.1, fun g => VLe V2 g.2.2.1 ∧ BE B m1 m2 a (.slice ra a.ranks.length rcp) vu vf vrules g.2.1 g.2.2.2 ∧ g.2.1.Inv limit ∧ buildM a limit F0 st0 = buildM a limit g.1 g.2.1 ∧ limit - g.2.1.subs.length < g.1, fun g => g.1⟩ (F0, st0, V2, q0) ⟨VLe.refl V2, hq0, hinv0, rfl, hF0⟩ ⟨rfl, rfl, trivial⟩ rfl rfl ?_
  rintro ⟨F, st, V, q⟩ ⟨hV, hq, hinv, hbm, hF⟩
  dsimp only at hV hq hinv hbm hF ⊢
  obtain ⟨vsub, hvs, rfl⟩ := hq
  obtain ⟨sa, scp, rfl⟩ := hvs.shape
  have hle := hinv.le
  obtain ⟨F, rfl⟩ : ∃ F2, F = F2 + 1 := ⟨F - 1, by omega⟩
  refine K_block ?_
  refine K_seq ?_
  refine K_region ?_
  refine KV (R_loadH ty87 rfl (hA2.mono hV) rfl (fun _ => rfl) rfl) rfl ?_
  refine KV (R_nilCheck rfl) rfl ?_
  refine KV (R_fieldAddr 6 fd95_3 rfl) rfl ?_
  refine KV (R_loadO ty92 0 rfl rfl rfl rfl (fun _ => rfl) rfl) rfl ?_
  refine KV (R_len sl92 rfl) rfl ?_
  refine KV (R_assign rfl) rfl ?_
  refine K_nil ?_
  refine Q_then ?_
  refine K_seq ?_
  refine K_seq ?_
  refine K_region ?_
  refine KV (R_loadH ty87 rfl (hA2.mono hV) rfl (fun _ => rfl) rfl) rfl ?_
  refine KV (R_nilCheck rfl) rfl ?_
  refine KV (R_fieldAddr 0 fd95_0 rfl) rfl ?_
  refine KV (R_fieldAddr 0 fd50_0 rfl) rfl ?_
  refine KV (R_loadO ty47 0 rfl rfl rfl rfl (fun _ => rfl) rfl) rfl ?_
  refine KV (R_len sl47 rfl) rfl ?_
  refine KV (R_move rfl) rfl ?_
  refine K_nil ?_
  refine Q_then ?_
  refine K_block ?_
  refine K_loop (G := Nat × DS × View × HL) ⟨fun g => [(2, ptr b2), (3, ptr b3), (5, .int .i64 (st.subs.length : Int)), (17, .slice ra a.ranks.length rcp), (18, .int .i64 a.ranks.length), (19, .int .i64 (g.1 : Int))], fun g => g.2.2.2, fun g => g.2.2.1, fun g => g.1 ≤ a.ranks.length ∧ VLe V g.2.2.1 ∧ BE B m1 m2 a (.slice ra a.ranks.length rcp) vu vf vrules g.2.1 g.2.2.2 ∧ g.2.1.Inv limit ∧ st.subs.length ≤ g.2.1.subs.length ∧ roundM a limit st.subs.length a.ranks 0 st = roundM a limit st.subs.length (a.ranks.drop g.1) g.1 g.2.1, fun g => a.ranks.length - g.1⟩ (0, st, V, _) ⟨Nat.zero_le _, VLe.refl V, ⟨_, hvs, rfl⟩, hinv, Nat.le_refl _, rfl⟩ ⟨rfl, rfl, rfl, rfl, rfl, rfl, trivial⟩ rfl rfl ?_
  rintro ⟨s, st2, U, q2⟩ ⟨hs, hU, hq2, hinv2, hge, hrd⟩
  dsimp only at hs hU hq2 hinv2 hge hrd ⊢
  refine K_seq ?_
  refine K_region ?_
  refine KV (R_cmp rfl rfl rfl) rfl ?_
  refine K_nil ?_
  refine Q_then ?_
  refine K_seq ?_
  refine K_if rfl (fun h20 => ?_) (fun h20 => ?_)
  ·
    have hs' : s < a.ranks.length := by omega
    obtain ⟨rb, ro, rfl, hrk⟩ := (hr.mono (h02.trans (hV.trans hU))).get hs'
    refine K_skip ?_
    refine Q_then ?_
    refine K_seq ?_
    refine K_block ?_
    refine K_seq ?_
    refine K_region ?_
    refine KV (R_move rfl) rfl ?_
    refine KV (R_indexN sl47 ty3 rfl rfl (by omega)) rfl ?_
    refine KV (R_loadH ty3 rfl (hrk) rfl (fun _ => rfl) rfl) rfl ?_
    refine KAn (A_alloc z3) rfl fun b6 hf6 => ?_
    refine K_store ty3 0 rfl rfl rfl rfl rfl rfl ?_
    refine KV (R_assign rfl) rfl ?_
    refine K_nil ?_
    refine KQ_pubnew (fun hm => Nat.lt_irrefl _ (Nat.lt_of_lt_of_le (hpass _ hm) hf6)) fun W1 hw1 hb6 => ?_
    have hA6 := At.of hb6
    refine Q_then ?_
    refine K_seq ?_
    refine K_region ?_
    refine KV (R_move rfl) rfl ?_
    refine KV (R_move rfl) rfl ?_
    refine KV (R_makeFunc rfl rfl) rfl ?_
    have hrs := haok.rk s hs'
    obtain ⟨nn, hnn⟩ : ∃ nn : Nat, a.ranks[s] = (nn : Int) := ⟨a.ranks[s].toNat, by omega⟩
    have hsi : i64ok (s : Int) := by simp only [i64ok]; omega
    have hnt : a.ranks[s].toNat = nn := by omega
    have hexti : ∀ x ∈ ext st.subs.length nn [], ∀ y ∈ x, i64ok y := by
      intro x hx y hy
      obtain ⟨zs, rfl, _, h2⟩ := ext_mem hx
      have := h2 y (by simpa using hy)
      simp only [i64ok]; omega
    have hvis : VisitOk Tryd.prog 102 [ptr b2, ptr b6, ptr b3] W1 (ext st.subs.length nn []) (fun pre q => ∃ st3, addsM a limit s pre st2 = some st3 ∧ BE B m1 m2 a (.slice (some ⟨rb, ro, none⟩) a.ranks.length rcp) vu vf vrules st3 q) (fun _ => addsM a limit s (ext st.subs.length nn []) st2 = none) := by
      rintro G pre xs xa len cp p hlen hle ⟨st3, hadd, hq3⟩ hpf hxs hcp
      have hxm : xs ∈ ext st.subs.length nn [] := hpf.subset (by simp)
      obtain ⟨zs, hz, hzl, hzz⟩ := ext_mem hxm
      rw [List.nil_append] at hz
      subst hz
      have hpre : ∀ x ∈ pre, ∀ y ∈ x, i64ok y := fun x hx => hexti x (hpf.subset (by simp [hx]))
      obtain ⟨hinv3, hge3⟩ := addsM_inv hsi hpre hinv2 hadd
      refine SatO.mono' (addc_spec a st3 limit s xs B m1 m2 b2 b6 b3 _ vu vf vrules _ G p hq3 hinv3 (hby.mono (h02.trans (hV.trans (hU.trans (hw1.trans hle))))) hxs hs' (by omega) ?_ ?_ ?_ hlim (hA2.mono (hV.trans (hU.trans (hw1.trans hle)))) (hA6.mono hle) (hA3.mono (hV.trans (hU.trans (hw1.trans hle))))) ?_
      · have := List.length_filter_le (fun r : Rl => decide (r.sym = (s : Int))) a.rules
        have := haok.ul
        simp only [rulesOf]; omega
      · intro r hr
        obtain ⟨h1, h2⟩ := rulesOf_mem hr
        obtain ⟨_, _, h3, _⟩ := haok.ru r h1
        rw [h2] at h3
        have h4 : a.ranks.getD ((s : Int).toNat) 0 = a.ranks[s] := by simp [List.getD, hs']
        rw [h4] at h3
        omega
      · intro z hz
        have := hzz z hz
        omega
      · rintro v H' q ⟨b, rfl, hb1, hb2⟩
        refine ⟨b, rfl, ?_, ?_⟩
        · intro e
          obtain ⟨st4, h4, hq4⟩ := hb1 e
          exact ⟨st4, by rw [addsM_append, hadd]; simp [addsM, h4], hq4⟩
        · intro e
          obtain ⟨rest, hrest⟩ := hpf
          rw [← hrest, addsM_append, addsM_append, hadd]
          simp [addsM, hb2 e]

    refine K_callO (first := []) q2 [] (by rw [List.append_nil]) c48 rfl rfl rfl (hnn ▸ tuples_spec nn st.subs.length 102 [ptr b2, ptr b6, ptr b3] _ _ W1 q2 hvis c102 (by omega) (by omega) ⟨st2, rfl, hq2⟩) ?_
    rintro _ U2 q3 hu2 ⟨r, rfl, hr1, hr2⟩
    refine KV (R_not rfl) rfl ?_
    refine K_nil ?_
    refine Q_then ?_
    cases r with
    | false =>
      refine K_ifT rfl ?_
      refine K_seq ?_
      refine K_region ?_
      refine KV (R_assign rfl) rfl ?_
      refine K_nil ?_
      refine Q_then ?_
      refine K_ret ?_
      refine Q_block_ret ?_
      refine Q_then_ret ?_
      refine Q_then_ret ?_
      refine Q_block_ret ?_
      refine Q_then_ret ?_
      refine Q_block_ret ?_
      refine Q_then_ret ?_
      refine Q_block_ret ?_
      refine results_gen (rs := [.tmp 4]) (vs := [_]) rfl ⟨rfl, trivial⟩ ?_
      refine ⟨false, rfl, (fun e => by cases e), fun _ => ?_⟩
      rw [hbm, buildM, hrd, List.drop_eq_getElem_cons hs', roundM, hnt, hr2 rfl]
      rfl
    | true =>
      obtain ⟨st3, hadd, hq3⟩ := hr1 rfl
      refine K_ifF rfl ?_
      refine K_skip ?_
      refine Q_block ?_
      refine Q_then ?_
      refine K_region ?_
      refine KV (R_add rfl rfl (by omega)) rfl ?_
      refine KV (R_move rfl) rfl ?_
      refine K_nil ?_
      exact Q_next (s + 1, st3, U2, _) ⟨hs', hU.trans (hw1.trans hu2), by rw [List.append_nil]; exact hq3, (addsM_inv hsi hexti hinv2 hadd).1, Nat.le_trans hge (addsM_inv hsi hexti hinv2 hadd).2, by rw [hrd, List.drop_eq_getElem_cons hs', roundM, hnt, hadd]; rfl⟩ (by dsimp only; omega) ⟨rfl, rfl, rfl, rfl, rfl, rfl, trivial⟩ rfl rfl
  ·
    have hs' : s = a.ranks.length := by omega
    subst hs'
    rw [List.drop_length, roundM] at hrd
    refine K_exit ?_
    refine Q_then_exit ?_
    refine Q_then_exit ?_
    refine Q_block_exit ?_
    refine Q_then ?_
    refine K_seq ?_
    obtain ⟨vsub2, hvs2, rfl⟩ := hq2
    obtain ⟨sa2, scp2, rfl⟩ := hvs2.shape
    refine K_region ?_
    refine KV (R_loadH ty87 rfl (hA2.mono (hV.trans hU)) rfl (fun _ => rfl) rfl) rfl ?_
    refine KV (R_nilCheck rfl) rfl ?_
    refine KV (R_fieldAddr 6 fd95_3 rfl) rfl ?_
    refine KV (R_loadO ty92 0 rfl rfl rfl rfl (fun _ => rfl) rfl) rfl ?_
    refine KV (R_len sl92 rfl) rfl ?_
    refine KV (R_move rfl) rfl ?_
    refine KV (R_cmp rfl rfl rfl) rfl ?_
    refine K_nil ?_
    refine Q_then ?_
    refine K_if rfl (fun h36 => ?_) (fun h36 => ?_)
    ·
      have hbf : buildM a limit (F + 1) st = some st2 := by
        rw [buildM, hrd]
        simp only [Option.bind_some]
        rw [if_pos (by omega)]
      refine K_seq ?_
      refine K_region ?_
      refine KV (R_assign rfl) rfl ?_
      refine K_nil ?_
      refine Q_then ?_
      refine K_ret ?_
      refine Q_block_ret ?_
      refine Q_then_ret ?_
      refine Q_block_ret ?_
      refine results_gen (rs := [.tmp 4]) (vs := [_]) rfl ⟨rfl, trivial⟩ ?_
      exact ⟨true, rfl, fun _ => ⟨st2, by rw [hbm, hbf], hinv2, _, hvs2, rfl⟩, fun e => by cases e⟩
    ·
      have hnext : buildM a limit F0 st0 = buildM a limit F st2 := by
        rw [hbm, buildM, hrd]
        simp only [Option.bind_some]
        rw [if_neg (by omega)]
      refine K_skip ?_
      refine Q_block ?_
      exact Q_next (F, st2, U, _) ⟨hV.trans hU, ⟨_, hvs2, rfl⟩, hinv2, hnext, (by dsimp only; omega)⟩ (by dsimp only; omega) ⟨rfl, rfl, trivial⟩ rfl rfl
end Go.Proofs.X
