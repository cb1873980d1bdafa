/-
  Part of the proof: rules for walks, contracts of the functions that the statements reach, plain laws. Own work. No statement of the seat is proved here.
-/
import Derived.Test.YtdclodapkhgabaaGreatDoorPart2
import Derived.Test.YtdclodapkhgabaaGreatDoorPart1
namespace Go.Proofs.X
open Go Pal Go.Proofs
attribute [local irreducible] Pal.KO Pal.KC Pal.KQ Pal.KD
theorem ty22 : Ty Tryz.prog T22 false 1 := .of (by kernel_rfl)
theorem ty24 : Ty Tryz.prog T24 true 2 := .of (by kernel_rfl)
theorem ty28 : Ty Tryz.prog T28 false 1 := .of (by kernel_rfl)
theorem ty30 : Ty Tryz.prog T30 true 2 := .of (by kernel_rfl)
theorem sl22 : slcOk Tryz.prog T22 T24 := by unfold slcOk; kernel_rfl
theorem sl28 : slcOk Tryz.prog T28 T30 := by unfold slcOk; kernel_rfl
theorem fd24_0 : fldOk Tryz.prog T24 0 0 = true := by kernel_rfl
theorem fd24_1 : fldOk Tryz.prog T24 1 1 = true := by kernel_rfl
theorem fd30_0 : fldOk Tryz.prog T30 0 0 = true := by kernel_rfl
theorem fd30_1 : fldOk Tryz.prog T30 1 1 = true := by kernel_rfl
theorem z24 : zeroOk Tryz.prog T24 (.agg #[.int .i64 0, .slice none 0 0]) := .of (by kernel_rfl)
theorem z30 : zeroOk Tryz.prog T30 (.agg #[.int .i64 0, .slice none 0 0]) := .of (by kernel_rfl)
theorem pl24 : placesOk Tryz.prog T24 [(0, 1), (1, 1)] := ⟨_, Tryz.underlying29, by kernel_rfl⟩
theorem pl30 : placesOk Tryz.prog T30 [(0, 1), (1, 1)] := ⟨_, Tryz.underlying35, by kernel_rfl⟩
theorem c8 : callable Tryz.prog F8 = true := by kernel_rfl
theorem c9 : callable Tryz.prog F9 = true := by kernel_rfl
theorem c11 : callable Tryz.prog F11 = true := by kernel_rfl
theorem c13 : callable Tryz.prog F13 = true := by kernel_rfl
theorem c14 : callable Tryz.prog F14 = true := by kernel_rfl
theorem c41 : callable Tryz.prog F41 = true := by kernel_rfl
theorem ap22 : App Tryz.prog T22 T24 2 32 := .of sl22 (by kernel_rfl)
theorem ap28 : App Tryz.prog T28 T30 2 32 := .of sl28 (by kernel_rfl)
theorem size_spec : ∀ m t H cs, t.size ≤ m → m ≤ 1099511627776 → RepT H t cs → Sat Tryz.prog F8 #[.agg cs.toArray] H (fun v _ => v = .int .i64 (t.size : Int)) := by
  intro m
  induction m with
  | zero => intro t H cs h; have := t.size_pos; omega
  | succ m ih =>
  intro t H cs hm hb hr
  cases hr with | mk s ts a cap b off cs' hs ha hA hrec =>
  have hsz : (Tr.node s ts).size = 1 + Tr.sizes ts := rfl
  refine enterO (n := 21) (args := [.agg #[.int .i64 s, .slice a ts.length cap]]) Tryz.func8 rfl rfl rfl fun w0 => ?_
  refine K_seq ?_
  refine K_region ?_
  refine KA (A_box rfl) rfl fun b1 => ?_
  refine KV (R_assign rfl) rfl ?_
  refine K_nil ?_
  refine Q_then ?_
  refine K_seq ?_
  refine K_region ?_
  refine KV (R_assign rfl) rfl ?_
  refine K_nil ?_
  refine Q_then ?_
  refine K_seq ?_
  refine K_seq ?_
  refine K_region ?_
  refine KV (R_assign rfl) rfl ?_
  refine K_nil ?_
  refine Q_then ?_
  refine K_block ?_
  refine K_loop (G := Nat × View) ⟨fun g => [(1, .pointer (some ⟨b1, 0, none⟩)), (3, .int .i64 (1 + (Tr.sizes (ts.take g.1) : Int))), (4, .int .i64 (g.1 : Int))], fun g => [blk b1 (.cells #[.int .i64 s, .slice a ts.length cap] T24 (0, 0))], fun g => g.2, fun g => g.1 ≤ ts.length ∧ VLe H g.2, fun g => ts.length - g.1⟩ (0, H) ⟨Nat.zero_le _, VLe.refl H⟩ ⟨rfl, rfl, rfl, trivial⟩ rfl rfl ?_
  rintro ⟨k, V⟩ ⟨hk, hV⟩
  dsimp only at hk hV ⊢
  refine K_seq ?_
  refine K_seq ?_
  refine K_region ?_
  refine KV (R_move rfl) rfl ?_
  refine KV (R_fieldAddr 1 fd24_1 rfl) rfl ?_
  refine KV (R_loadO ty22 0 rfl rfl rfl rfl (fun _ => rfl) rfl) rfl ?_
  refine KV (R_len sl22 rfl) rfl ?_
  refine KV (R_cmp rfl rfl rfl) rfl ?_
  refine K_nil ?_
  refine Q_then ?_
  refine K_if rfl (fun hlt => ?_) (fun hlt => ?_)
  ·
    have hlt' : k < ts.length := by omega
    have hle := Tr.sizes_take_le ts (k + 1)
    have hln := Tr.length_le_sizes ts
    have htk := Tr.sizes_take ts k hlt'
    have ha' := ha (by intro e; subst e; simp at hlt')
    subst ha'
    refine K_skip ?_
    refine Q_then ?_
    refine K_seq ?_
    refine K_block ?_
    refine K_region ?_
    refine KV (R_move rfl) rfl ?_
    refine KV (R_fieldAddr 1 fd24_1 rfl) rfl ?_
    refine KV (R_loadO ty22 0 rfl rfl rfl rfl (fun _ => rfl) rfl) rfl ?_
    refine KV (R_move rfl) rfl ?_
    refine KV (R_indexN sl22 ty24 rfl rfl (by omega)) rfl ?_
    refine KV (R_loadH ty24 rfl ((hA k hlt').2.mono hV) (hA k hlt').1 (fun e => by cases e) rfl) rfl ?_
    refine K_call c8 rfl rfl (ih ts[k] V (cs' k) (by omega) (by omega) ((hrec k hlt').mono hV)) ?_
    rintro u V' hle2 rfl
    refine KV (R_add rfl rfl (by omega)) rfl ?_
    refine KV (R_assign rfl) rfl ?_
    refine K_nil ?_
    refine Q_block ?_
    refine Q_then ?_
    refine K_region ?_
    refine KV (R_move rfl) rfl ?_
    refine KV (R_add rfl rfl (by omega)) rfl ?_
    refine KV (R_assign rfl) rfl ?_
    refine K_nil ?_
    refine Q_next (k + 1, V') ⟨hlt', hV.trans hle2⟩ (by dsimp only; omega) ⟨rfl, ?_, rfl, trivial⟩ rfl rfl
    refine congrArg (fun z => some (Value.int .i64 z)) ?_
    dsimp only
    omega
  ·
    have hk' : k = ts.length := by omega
    subst hk'
    refine K_exit ?_
    refine Q_then_exit ?_
    refine Q_then_exit ?_
    refine Q_block_exit ?_
    refine Q_then ?_
    refine K_seq ?_
    refine K_region ?_
    refine KV (R_move rfl) rfl ?_
    refine KV (R_assign rfl) rfl ?_
    refine K_nil ?_
    refine Q_then ?_
    refine K_ret ?_
    refine results_gen (rs := [.tmp 2]) (vs := [_]) rfl ⟨rfl, trivial⟩ ?_
    rw [List.take_length]
    simp [tupV, Tr.size]

theorem deep_spec : ∀ m t H cs, t.size ≤ m → m ≤ 1099511627776 → RepT H t cs → Sat Tryz.prog F9 #[.agg cs.toArray] H (fun v _ => v = .int .i64 (t.deep : Int)) := by
  intro m
  induction m with
  | zero => intro t H cs h; have := t.size_pos; omega
  | succ m ih =>
  intro t H cs hm hb hr
  cases hr with | mk s ts a cap b off cs' hs ha hA hrec =>
  have hsz : (Tr.node s ts).size = 1 + Tr.sizes ts := rfl
  have hdl := Tr.deeps_le ts
  refine enterO (n := 25) (args := [.agg #[.int .i64 s, .slice a ts.length cap]]) Tryz.func40 rfl rfl rfl fun w0 => ?_
  refine K_seq ?_
  refine K_region ?_
  refine KA (A_box rfl) rfl fun b1 => ?_
  refine KV (R_assign rfl) rfl ?_
  refine K_nil ?_
  refine Q_then ?_
  refine K_seq ?_
  refine K_region ?_
  refine KV (R_assign rfl) rfl ?_
  refine K_nil ?_
  refine Q_then ?_
  refine K_seq ?_
  refine K_seq ?_
  refine K_region ?_
  refine KV (R_assign rfl) rfl ?_
  refine K_nil ?_
  refine Q_then ?_
  refine K_block ?_
  refine K_loop (G := Nat × View) ⟨fun g => [(1, .pointer (some ⟨b1, 0, none⟩)), (3, .int .i64 (Tr.deeps (ts.take g.1) : Int)), (4, .int .i64 (g.1 : Int))], fun g => [blk b1 (.cells #[.int .i64 s, .slice a ts.length cap] T24 (0, 0))], fun g => g.2, fun g => g.1 ≤ ts.length ∧ VLe H g.2, fun g => ts.length - g.1⟩ (0, H) ⟨Nat.zero_le _, VLe.refl H⟩ ⟨rfl, rfl, rfl, trivial⟩ rfl rfl ?_
  rintro ⟨k, V⟩ ⟨hk, hV⟩
  dsimp only at hk hV ⊢
  refine K_seq ?_
  refine K_seq ?_
  refine K_region ?_
  refine KV (R_move rfl) rfl ?_
  refine KV (R_fieldAddr 1 fd24_1 rfl) rfl ?_
  refine KV (R_loadO ty22 0 rfl rfl rfl rfl (fun _ => rfl) rfl) rfl ?_
  refine KV (R_len sl22 rfl) rfl ?_
  refine KV (R_cmp rfl rfl rfl) rfl ?_
  refine K_nil ?_
  refine Q_then ?_
  refine K_if rfl (fun hlt => ?_) (fun hlt => ?_)
  ·
    have hlt' : k < ts.length := by omega
    have hln := Tr.length_le_sizes ts
    have htk := Tr.sizes_take ts k hlt'
    have hle := Tr.sizes_take_le ts (k + 1)
    have hdk := Tr.deeps_take ts k hlt'
    have ha' := ha (by intro e; subst e; simp at hlt')
    subst ha'
    refine K_skip ?_
    refine Q_then ?_
    refine K_seq ?_
    refine K_block ?_
    refine K_seq ?_
    refine K_region ?_
    refine KV (R_fieldAddr 1 fd24_1 rfl) rfl ?_
    refine KV (R_loadO ty22 0 rfl rfl rfl rfl (fun _ => rfl) rfl) rfl ?_
    refine KV (R_move rfl) rfl ?_
    refine KV (R_indexN sl22 ty24 rfl rfl (by omega)) rfl ?_
    refine KV (R_loadH ty24 rfl ((hA k hlt').2.mono hV) (hA k hlt').1 (fun e => by cases e) rfl) rfl ?_
    refine K_call c9 rfl rfl (ih ts[k] V (cs' k) (by omega) (by omega) ((hrec k hlt').mono hV)) ?_
    rintro u V' hle2 rfl
    refine KV (R_assign rfl) rfl ?_
    refine K_nil ?_
    refine Q_then ?_
    refine K_seq ?_
    refine K_region ?_
    refine KV (R_move rfl) rfl ?_
    refine KV (R_move rfl) rfl ?_
    refine KV (R_cmp rfl rfl rfl) rfl ?_
    refine K_nil ?_
    refine Q_then ?_
    refine K_if rfl (fun hgt => ?_) (fun hgt => ?_)
    ·
      refine K_region ?_
      refine KV (R_move rfl) rfl ?_
      refine KV (R_assign rfl) rfl ?_
      refine K_nil ?_
      refine Q_block ?_
      refine Q_then ?_
      refine K_region ?_
      refine KV (R_move rfl) rfl ?_
      refine KV (R_add rfl rfl (by omega)) rfl ?_
      refine KV (R_assign rfl) rfl ?_
      refine K_nil ?_
      refine Q_next (k + 1, V') ⟨hlt', hV.trans hle2⟩ (by dsimp only; omega) ⟨rfl, ?_, rfl, trivial⟩ rfl rfl
      refine congrArg (fun z => some (Value.int .i64 z)) ?_
      dsimp only
      omega
    ·
      refine K_skip ?_
      refine Q_block ?_
      refine Q_then ?_
      refine K_region ?_
      refine KV (R_move rfl) rfl ?_
      refine KV (R_add rfl rfl (by omega)) rfl ?_
      refine KV (R_assign rfl) rfl ?_
      refine K_nil ?_
      refine Q_next (k + 1, V') ⟨hlt', hV.trans hle2⟩ (by dsimp only; omega) ⟨rfl, ?_, rfl, trivial⟩ rfl rfl
      refine congrArg (fun z => some (Value.int .i64 z)) ?_
      dsimp only
      omega
  ·
    have hk' : k = ts.length := by omega
    subst hk'
    rw [List.take_length]
    refine K_exit ?_
    refine Q_then_exit ?_
    refine Q_then_exit ?_
    refine Q_block_exit ?_
    refine Q_then ?_
    refine K_seq ?_
    refine K_region ?_
    refine KV (R_move rfl) rfl ?_
    refine KV (R_add rfl rfl (by omega)) rfl ?_
    refine KV (R_assign rfl) rfl ?_
    refine K_nil ?_
    refine Q_then ?_
    refine K_ret ?_
    refine results_gen (rs := [.tmp 2]) (vs := [_]) rfl ⟨rfl, trivial⟩ ?_
    simp [tupV, Tr.deep]

theorem tree_spec : ∀ m t H cs, t.size ≤ m → m ≤ 1099511627776 → RepT H t cs → Sat Tryz.prog F11 #[.agg cs.toArray] H (fun v H' => ∃ ds, v = .agg ds.toArray ∧ RepT H' t ds) := by
  intro m
  induction m with
  | zero => intro t H cs h; have := t.size_pos; omega
  | succ m ih =>
  intro t H cs hm hb hr
  cases hr with | mk s ts a cap b off cs' hs ha hA hrec =>
  have hsz : (Tr.node s ts).size = 1 + Tr.sizes ts := rfl
  have hln := Tr.length_le_sizes ts
  refine enterO (n := 27) (args := [.agg #[.int .i64 s, .slice a ts.length cap]]) Tryz.func11 rfl rfl rfl fun w0 => ?_
  refine K_seq ?_
  refine K_region ?_
  refine KA (A_box rfl) rfl fun b1 => ?_
  refine KA (A_alloc z30) rfl fun b2 => ?_
  refine K_nil ?_
  refine Q_then ?_
  refine K_seq ?_
  refine K_region ?_
  refine KV (R_fieldAddr 0 fd24_0 rfl) rfl ?_
  refine KV (R_loadO ty3 1 rfl rfl rfl rfl (fun _ => rfl) rfl) rfl ?_
  refine KV (R_build z30 pl30 rfl rfl) rfl ?_
  refine KA (A_alloc z30) rfl fun b3 => ?_
  refine K_store ty30 0 rfl rfl rfl rfl rfl rfl ?_
  refine K_nil ?_
  refine Q_then ?_
  refine K_seq ?_
  refine K_seq ?_
  refine K_region ?_
  refine KV (R_assign rfl) rfl ?_
  refine K_nil ?_
  refine Q_then ?_
  refine K_block ?_
  refine K_nilrow T30 2 ?_
  refine K_loop (G := Nat × View × Value × List Value) ⟨fun g => [(1, ptr b1), (2, ptr b2), (3, ptr b3), (4, .int .i64 (g.1 : Int))], fun g => [row g.2.2.1 T30 2 g.1 g.2.2.2, blk b3 (.cells #[.int .i64 s, g.2.2.1] T30 (0, 0)), blk b2 (.cells #[.int .i64 0, .slice none 0 0] T30 (0, 0)), blk b1 (.cells #[.int .i64 s, .slice a ts.length cap] T24 (0, 0))], fun g => g.2.1, fun g => g.1 ≤ ts.length ∧ VLe H g.2.1 ∧ RepL (RepT g.2.1) 2 (ts.take g.1) g.2.2.2 ∧ ∃ a c, g.2.2.1 = .slice a g.1 c, fun g => ts.length - g.1⟩ (0, H, nilS, []) ⟨Nat.zero_le _, VLe.refl H, .nil, _, _, rfl⟩ ⟨rfl, rfl, rfl, rfl, trivial⟩ rfl rfl ?_
  rintro ⟨k, V, rv, xs⟩ ⟨hk, hV, hL, hrv⟩
  dsimp only at hk hV hL hrv ⊢
  obtain ⟨ra, rc, rfl⟩ := hrv
  refine K_seq ?_
  refine K_seq ?_
  refine K_region ?_
  refine KV (R_move rfl) rfl ?_
  refine KV (R_fieldAddr 1 fd24_1 rfl) rfl ?_
  refine KV (R_loadO ty22 3 rfl rfl rfl rfl (fun _ => rfl) rfl) rfl ?_
  refine KV (R_len sl22 rfl) rfl ?_
  refine KV (R_cmp rfl rfl rfl) rfl ?_
  refine K_nil ?_
  refine Q_then ?_
  refine K_if rfl (fun hlt => ?_) (fun hlt => ?_)
  ·
    have hlt' : k < ts.length := by omega
    have htk := Tr.sizes_take ts k hlt'
    have hle := Tr.sizes_take_le ts (k + 1)
    have ha' := ha (by intro e; subst e; simp at hlt')
    subst ha'
    refine K_skip ?_
    refine Q_then ?_
    refine K_seq ?_
    refine K_block ?_
    refine K_regionD (fin := true) (R := [0, 1, 2, 3, 4, 5, 6, 7, 8, 9, 10, 11]) (by kernel_rfl) mixed (.cons _ (.cons_cons _ (.cons _ (.cons_cons _ (List.nil_sublist _))))) ?_
    refine D_val rfl rfl rfl (R_fieldAddr 1 fd30_1 rfl) ?_
    refine D_val rfl rfl rfl (R_loadO ty28 0 rfl rfl rfl rfl (fun _ => rfl) rfl) ?_
    refine D_val rfl rfl rfl (R_fieldAddr 1 fd24_1 rfl) ?_
    refine D_val rfl rfl rfl (R_loadO ty22 1 rfl rfl rfl rfl (fun _ => rfl) rfl) ?_
    refine D_val rfl rfl rfl (R_move rfl) ?_
    refine D_val rfl rfl rfl (R_indexN sl22 ty24 rfl rfl (by omega)) ?_
    refine D_val rfl rfl rfl (R_loadH ty24 rfl ((hA k hlt').2.mono hV) (hA k hlt').1 (fun e => by cases e) rfl) ?_
    refine D_call rfl rfl c11 rfl ⟨⟨1, rfl⟩, ⟨3, rfl⟩, trivial⟩ (ih ts[k] V (cs' k) (by omega) (by omega) ((hrec k hlt').mono hV)) ?_
    rintro u V' hle2 ⟨ds, rfl, hds⟩
    obtain ⟨x0, x1, x2, x3, rfl⟩ := hds.shape
    refine D_alloc rfl rfl rfl (A_buildSlice (vs := [.agg #[.int .i64 x0, .slice x1 x2 x3]]) sl28 ty30 z30 rfl rfl (by simp [Value.cells]) (by simp) rfl (by decide)) fun b23 => ?_
    refine D_append1 0 ap28 rfl rfl rfl rfl rfl rfl ⟨⟨0, rfl⟩, ⟨2, rfl⟩, trivial⟩ rfl rfl ⟨by omega, by omega⟩ fun a24 k24 hn24 => ?_
    refine D_val rfl rfl rfl (R_fieldAddr 1 fd30_1 rfl) ?_
    refine D_lastStore ty28 1 rfl rfl rfl rfl rfl rfl rfl rfl ?_
    refine Q_block ?_
    refine Q_then ?_
    refine K_region ?_
    refine KV (R_move rfl) rfl ?_
    refine KV (R_add rfl rfl (by omega)) rfl ?_
    refine KV (R_assign rfl) rfl ?_
    refine K_nil ?_
    refine Q_next (k + 1, V', .slice a24 (k + 1) k24, xs ++ [.int .i64 x0, .slice x1 x2 x3]) ⟨hlt', hV.trans hle2, ?_, _, _, rfl⟩ (by dsimp only; omega) ⟨rfl, rfl, rfl, rfl, trivial⟩ rfl rfl
    dsimp only
    rw [List.take_succ_eq_append_getElem hlt']
    exact (hL.imp fun x cs h => h.mono hle2).snoc hds hds.two
  ·
    have hk' : k = ts.length := by omega
    subst hk'
    rw [List.take_length] at hL
    refine K_exit ?_
    refine Q_then_exit ?_
    refine Q_then_exit ?_
    refine Q_block_exit ?_
    refine Q_then ?_
    refine K_seq ?_
    refine K_region ?_
    refine KV (R_loadO ty30 1 rfl rfl rfl rfl (fun e => by cases e) rfl) rfl ?_
    refine K_store ty30 2 rfl rfl rfl rfl rfl rfl ?_
    refine K_nil ?_
    refine Q_then ?_
    refine K_ret ?_
    refine KQ_pubrow rfl fun Hp hp hrow => ?_
    refine results_gen (rs := [.cell 2 35]) (vs := [_]) rfl ⟨⟨_, _, _, _, _, _, 1, rfl, rfl, ty30, (fun e => by cases e), rfl, rfl⟩, trivial⟩ ?_
    exact ⟨_, rfl, .of hs hrow.sl (hL.imp fun x cs h => h.mono hp)⟩

theorem back_spec : ∀ m t H cs, t.size ≤ m → m ≤ 1099511627776 → RepT H t cs → Sat Tryz.prog F14 #[.agg cs.toArray] H (fun v H' => ∃ ds, v = .agg ds.toArray ∧ RepT H' t ds) := by
  intro m
  induction m with
  | zero => intro t H cs h; have := t.size_pos; omega
  | succ m ih =>
  intro t H cs hm hb hr
  cases hr with | mk s ts a cap b off cs' hs ha hA hrec =>
  have hsz : (Tr.node s ts).size = 1 + Tr.sizes ts := rfl
  have hln := Tr.length_le_sizes ts
  refine enterO (n := 27) (args := [.agg #[.int .i64 s, .slice a ts.length cap]]) Tryz.func19 rfl rfl rfl fun w0 => ?_
  refine K_seq ?_
  refine K_region ?_
  refine KA (A_box rfl) rfl fun b1 => ?_
  refine KA (A_alloc z24) rfl fun b2 => ?_
  refine K_nil ?_
  refine Q_then ?_
  refine K_seq ?_
  refine K_region ?_
  refine KV (R_fieldAddr 0 fd30_0 rfl) rfl ?_
  refine KV (R_loadO ty3 1 rfl rfl rfl rfl (fun _ => rfl) rfl) rfl ?_
  refine KV (R_build z24 pl24 rfl rfl) rfl ?_
  refine KA (A_alloc z24) rfl fun b3 => ?_
  refine K_store ty24 0 rfl rfl rfl rfl rfl rfl ?_
  refine K_nil ?_
  refine Q_then ?_
  refine K_seq ?_
  refine K_seq ?_
  refine K_region ?_
  refine KV (R_assign rfl) rfl ?_
  refine K_nil ?_
  refine Q_then ?_
  refine K_block ?_
  refine K_nilrow T24 2 ?_
  refine K_loop (G := Nat × View × Value × List Value) ⟨fun g => [(1, ptr b1), (2, ptr b2), (3, ptr b3), (4, .int .i64 (g.1 : Int))], fun g => [row g.2.2.1 T24 2 g.1 g.2.2.2, blk b3 (.cells #[.int .i64 s, g.2.2.1] T24 (0, 0)), blk b2 (.cells #[.int .i64 0, .slice none 0 0] T24 (0, 0)), blk b1 (.cells #[.int .i64 s, .slice a ts.length cap] T30 (0, 0))], fun g => g.2.1, fun g => g.1 ≤ ts.length ∧ VLe H g.2.1 ∧ RepL (RepT g.2.1) 2 (ts.take g.1) g.2.2.2 ∧ ∃ a c, g.2.2.1 = .slice a g.1 c, fun g => ts.length - g.1⟩ (0, H, nilS, []) ⟨Nat.zero_le _, VLe.refl H, .nil, _, _, rfl⟩ ⟨rfl, rfl, rfl, rfl, trivial⟩ rfl rfl ?_
  rintro ⟨k, V, rv, xs⟩ ⟨hk, hV, hL, hrv⟩
  dsimp only at hk hV hL hrv ⊢
  obtain ⟨ra, rc, rfl⟩ := hrv
  refine K_seq ?_
  refine K_seq ?_
  refine K_region ?_
  refine KV (R_move rfl) rfl ?_
  refine KV (R_fieldAddr 1 fd30_1 rfl) rfl ?_
  refine KV (R_loadO ty28 3 rfl rfl rfl rfl (fun _ => rfl) rfl) rfl ?_
  refine KV (R_len sl28 rfl) rfl ?_
  refine KV (R_cmp rfl rfl rfl) rfl ?_
  refine K_nil ?_
  refine Q_then ?_
  refine K_if rfl (fun hlt => ?_) (fun hlt => ?_)
  ·
    have hlt' : k < ts.length := by omega
    have htk := Tr.sizes_take ts k hlt'
    have hle := Tr.sizes_take_le ts (k + 1)
    have ha' := ha (by intro e; subst e; simp at hlt')
    subst ha'
    refine K_skip ?_
    refine Q_then ?_
    refine K_seq ?_
    refine K_block ?_
    refine K_regionD (fin := true) (R := [0, 1, 2, 3, 4, 5, 6, 7, 8, 9, 10, 11]) (by kernel_rfl) mixed (.cons _ (.cons_cons _ (.cons _ (.cons_cons _ (List.nil_sublist _))))) ?_
    refine D_val rfl rfl rfl (R_fieldAddr 1 fd24_1 rfl) ?_
    refine D_val rfl rfl rfl (R_loadO ty22 0 rfl rfl rfl rfl (fun _ => rfl) rfl) ?_
    refine D_val rfl rfl rfl (R_fieldAddr 1 fd30_1 rfl) ?_
    refine D_val rfl rfl rfl (R_loadO ty28 1 rfl rfl rfl rfl (fun _ => rfl) rfl) ?_
    refine D_val rfl rfl rfl (R_move rfl) ?_
    refine D_val rfl rfl rfl (R_indexN sl28 ty30 rfl rfl (by omega)) ?_
    refine D_val rfl rfl rfl (R_loadH ty30 rfl ((hA k hlt').2.mono hV) (hA k hlt').1 (fun e => by cases e) rfl) ?_
    refine D_call rfl rfl c14 rfl ⟨⟨1, rfl⟩, ⟨3, rfl⟩, trivial⟩ (ih ts[k] V (cs' k) (by omega) (by omega) ((hrec k hlt').mono hV)) ?_
    rintro u V' hle2 ⟨ds, rfl, hds⟩
    obtain ⟨x0, x1, x2, x3, rfl⟩ := hds.shape
    refine D_alloc rfl rfl rfl (A_buildSlice (vs := [.agg #[.int .i64 x0, .slice x1 x2 x3]]) sl22 ty24 z24 rfl rfl (by simp [Value.cells]) (by simp) rfl (by decide)) fun b23 => ?_
    refine D_append1 0 ap22 rfl rfl rfl rfl rfl rfl ⟨⟨0, rfl⟩, ⟨2, rfl⟩, trivial⟩ rfl rfl ⟨by omega, by omega⟩ fun a24 k24 hn24 => ?_
    refine D_val rfl rfl rfl (R_fieldAddr 1 fd24_1 rfl) ?_
    refine D_lastStore ty22 1 rfl rfl rfl rfl rfl rfl rfl rfl ?_
    refine Q_block ?_
    refine Q_then ?_
    refine K_region ?_
    refine KV (R_move rfl) rfl ?_
    refine KV (R_add rfl rfl (by omega)) rfl ?_
    refine KV (R_assign rfl) rfl ?_
    refine K_nil ?_
    refine Q_next (k + 1, V', .slice a24 (k + 1) k24, xs ++ [.int .i64 x0, .slice x1 x2 x3]) ⟨hlt', hV.trans hle2, ?_, _, _, rfl⟩ (by dsimp only; omega) ⟨rfl, rfl, rfl, rfl, trivial⟩ rfl rfl
    dsimp only
    rw [List.take_succ_eq_append_getElem hlt']
    exact (hL.imp fun x cs h => h.mono hle2).snoc hds hds.two
  ·
    have hk' : k = ts.length := by omega
    subst hk'
    rw [List.take_length] at hL
    refine K_exit ?_
    refine Q_then_exit ?_
    refine Q_then_exit ?_
    refine Q_block_exit ?_
    refine Q_then ?_
    refine K_seq ?_
    refine K_region ?_
    refine KV (R_loadO ty24 1 rfl rfl rfl rfl (fun e => by cases e) rfl) rfl ?_
    refine K_store ty24 2 rfl rfl rfl rfl rfl rfl ?_
    refine K_nil ?_
    refine Q_then ?_
    refine K_ret ?_
    refine KQ_pubrow rfl fun Hp hp hrow => ?_
    refine results_gen (rs := [.cell 2 29]) (vs := [_]) rfl ⟨⟨_, _, _, _, _, _, 1, rfl, rfl, ty24, (fun e => by cases e), rfl, rfl⟩, trivial⟩ ?_
    exact ⟨_, rfl, .of hs hrow.sl (hL.imp fun x cs h => h.mono hp)⟩

theorem cmp_spec (a b : Int) (H : View) : Sat Tryz.prog F41 #[.int .i64 a, .int .i64 b] H (fun v _ => v = .int .i64 (cmpI a b)) := by
  refine enterO (n := 11) (args := [.int .i64 a, .int .i64 b]) Tryz.func45 rfl rfl rfl fun w0 => ?_
  refine K_seq ?_
  refine K_region ?_
  refine KV (R_assign rfl) rfl ?_
  refine K_nil ?_
  refine Q_then ?_
  refine K_seq ?_
  refine K_seq ?_
  refine K_region ?_
  refine KV (R_move rfl) rfl ?_
  refine KV (R_move rfl) rfl ?_
  refine KV (R_cmp rfl rfl rfl) rfl ?_
  refine K_nil ?_
  refine Q_then ?_
  refine K_if rfl (fun h7 => ?_) (fun h7 => ?_)
  ·
    refine K_seq ?_
    refine K_region ?_
    refine KV (R_assign rfl) rfl ?_
    refine K_nil ?_
    refine Q_then ?_
    refine K_ret ?_
    refine Q_then_ret ?_
    refine results_gen (rs := [.tmp 4]) (vs := [_]) rfl ⟨rfl, trivial⟩ ?_
    simp [tupV, cmpI, h7]
  ·
    refine K_skip ?_
    refine Q_then ?_
    refine K_seq ?_
    refine K_seq ?_
    refine K_region ?_
    refine KV (R_move rfl) rfl ?_
    refine KV (R_move rfl) rfl ?_
    refine KV (R_cmp rfl rfl rfl) rfl ?_
    refine K_nil ?_
    refine Q_then ?_
    refine K_if rfl (fun h10 => ?_) (fun h10 => ?_)
    ·
      refine K_seq ?_
      refine K_region ?_
      refine KV (R_assign rfl) rfl ?_
      refine K_nil ?_
      refine Q_then ?_
      refine K_ret ?_
      refine Q_then_ret ?_
      refine results_gen (rs := [.tmp 4]) (vs := [_]) rfl ⟨rfl, trivial⟩ ?_
      simp [tupV, cmpI, h7, h10]
    ·
      refine K_skip ?_
      refine Q_then ?_
      refine K_seq ?_
      refine K_region ?_
      refine KV (R_assign rfl) rfl ?_
      refine K_nil ?_
      refine Q_then ?_
      refine K_ret ?_
      refine results_gen (rs := [.tmp 4]) (vs := [_]) rfl ⟨rfl, trivial⟩ ?_
      simp [tupV, cmpI, h7, h10]

theorem tcmp_spec : ∀ m s t H cs ds, s.size ≤ m → t.size ≤ 1099511627776 → m ≤ 1099511627776 → RepT H s cs → RepT H t ds → Sat Tryz.prog F13 #[.agg cs.toArray, .agg ds.toArray] H (fun v _ => v = .int .i64 (Tr.cmp s t)) := by
  intro m
  induction m with
  | zero => intro t _ H cs _ h; have := t.size_pos; omega
  | succ m ih =>
  intro s t H cs ds hm ht hb hr hq
  have hrs := hr
  have hqs := hq
  cases hr with | mk s ts a cap b off cs' hs ha hA hrec =>
  cases hq with | mk u us a2 cap2 b2 off2 ds' hs2 ha2 hA2 hrec2 =>
  have hsz : (Tr.node s ts).size = 1 + Tr.sizes ts := rfl
  have hsz2 : (Tr.node u us).size = 1 + Tr.sizes us := rfl
  have hln := Tr.length_le_sizes ts
  have hln2 := Tr.length_le_sizes us
  have hunf : Tr.cmp (.node s ts) (.node u us) = if cmpI (Tr.node s ts).size (Tr.node u us).size ≠ 0 then cmpI (Tr.node s ts).size (Tr.node u us).size
      else if cmpI s u ≠ 0 then cmpI s u else if cmpI ts.length us.length ≠ 0 then cmpI ts.length us.length else Tr.cmps ts us := by simp only [Tr.cmp]
  refine enterO (n := 57) (args := [.agg #[.int .i64 s, .slice a ts.length cap], .agg #[.int .i64 u, .slice a2 us.length cap2]]) Tryz.func18 rfl rfl rfl fun w0 => ?_
  refine K_seq ?_
  refine K_region ?_
  refine KA (A_box rfl) rfl fun b2 => ?_
  refine KA (A_box rfl) rfl fun b3 => ?_
  refine KV (R_assign rfl) rfl ?_
  refine K_nil ?_
  refine Q_then ?_
  refine K_seq ?_
  refine K_seq ?_
  refine K_regionD (fin := false) (R := [0, 2, 1, 3, 4, 5]) (by kernel_rfl) mixed (.cons_cons _ (.cons_cons _ (List.nil_sublist _))) ?_
  refine D_val rfl rfl rfl (R_loadO ty24 1 rfl rfl rfl rfl (fun e => by cases e) rfl) ?_
  refine D_val rfl rfl rfl (R_loadO ty24 0 rfl rfl rfl rfl (fun e => by cases e) rfl) ?_
  refine D_call rfl rfl c8 rfl ⟨⟨0, rfl⟩, ⟨1, rfl⟩, trivial⟩ (size_spec (m + 1) (.node s ts) H _ hm hb hrs) ?_
  rintro x1 H1 hle1 rfl
  refine D_call rfl rfl c8 rfl ⟨⟨0, rfl⟩, ⟨1, rfl⟩, trivial⟩ (size_spec _ (.node u us) H1 _ (Nat.le_refl _) ht (hqs.mono hle1)) ?_
  rintro x2 H2 hle2 rfl
  refine D_call rfl rfl c41 rfl ⟨⟨0, rfl⟩, ⟨1, rfl⟩, trivial⟩ (cmp_spec _ _ H2) ?_
  rintro x3 H3 hle3 rfl
  refine D_val rfl rfl rfl (R_assign rfl) ?_
  refine D_done ?_
  refine Q_then ?_
  refine K_seq ?_
  refine K_region ?_
  refine KV (R_move rfl) rfl ?_
  refine KV (R_cmp rfl rfl rfl) rfl ?_
  refine K_nil ?_
  refine Q_then ?_
  refine K_if rfl (fun h16 => ?_) (fun h16 => ?_)
  ·
    refine K_seq ?_
    refine K_region ?_
    refine KV (R_move rfl) rfl ?_
    refine KV (R_assign rfl) rfl ?_
    refine K_nil ?_
    refine Q_then ?_
    refine K_ret ?_
    refine Q_then_ret ?_
    refine results_gen (rs := [.tmp 4]) (vs := [_]) rfl ⟨rfl, trivial⟩ ?_
    rw [hunf, if_pos h16]; rfl
  ·
    refine K_skip ?_
    refine Q_then ?_
    refine K_seq ?_
    refine K_seq ?_
    refine K_region ?_
    refine KV (R_fieldAddr 0 fd24_0 rfl) rfl ?_
    refine KV (R_loadO ty3 1 rfl rfl rfl rfl (fun _ => rfl) rfl) rfl ?_
    refine KV (R_fieldAddr 0 fd24_0 rfl) rfl ?_
    refine KV (R_loadO ty3 0 rfl rfl rfl rfl (fun _ => rfl) rfl) rfl ?_
    refine K_call c41 rfl rfl (cmp_spec _ _ H3) ?_
    rintro x4 H4 hle4 rfl
    refine KV (R_assign rfl) rfl ?_
    refine K_nil ?_
    refine Q_then ?_
    refine K_seq ?_
    refine K_region ?_
    refine KV (R_move rfl) rfl ?_
    refine KV (R_cmp rfl rfl rfl) rfl ?_
    refine K_nil ?_
    refine Q_then ?_
    refine K_if rfl (fun h24 => ?_) (fun h24 => ?_)
    ·
      refine K_seq ?_
      refine K_region ?_
      refine KV (R_move rfl) rfl ?_
      refine KV (R_assign rfl) rfl ?_
      refine K_nil ?_
      refine Q_then ?_
      refine K_ret ?_
      refine Q_then_ret ?_
      refine results_gen (rs := [.tmp 4]) (vs := [_]) rfl ⟨rfl, trivial⟩ ?_
      rw [hunf, if_neg h16, if_pos h24]; rfl
    ·
      refine K_skip ?_
      refine Q_then ?_
      refine K_seq ?_
      refine K_seq ?_
      refine K_region ?_
      refine KV (R_fieldAddr 1 fd24_1 rfl) rfl ?_
      refine KV (R_loadO ty22 1 rfl rfl rfl rfl (fun _ => rfl) rfl) rfl ?_
      refine KV (R_len sl22 rfl) rfl ?_
      refine KV (R_fieldAddr 1 fd24_1 rfl) rfl ?_
      refine KV (R_loadO ty22 0 rfl rfl rfl rfl (fun _ => rfl) rfl) rfl ?_
      refine KV (R_len sl22 rfl) rfl ?_
      refine K_call c41 rfl rfl (cmp_spec _ _ H4) ?_
      rintro x5 H5 hle5 rfl
      refine KV (R_assign rfl) rfl ?_
      refine K_nil ?_
      refine Q_then ?_
      refine K_seq ?_
      refine K_region ?_
      refine KV (R_move rfl) rfl ?_
      refine KV (R_cmp rfl rfl rfl) rfl ?_
      refine K_nil ?_
      refine Q_then ?_
      refine K_if rfl (fun h34 => ?_) (fun h34 => ?_)
      ·
        refine K_seq ?_
        refine K_region ?_
        refine KV (R_move rfl) rfl ?_
        refine KV (R_assign rfl) rfl ?_
        refine K_nil ?_
        refine Q_then ?_
        refine K_ret ?_
        refine Q_then_ret ?_
        refine results_gen (rs := [.tmp 4]) (vs := [_]) rfl ⟨rfl, trivial⟩ ?_
        rw [hunf, if_neg h16, if_neg h24, if_pos h34]; rfl
      ·
        have hlen : ts.length = us.length := by have h := h34; simp only [ne_eq, Decidable.not_not, cmpI] at h; split at h <;> (try split at h) <;> omega
        refine K_skip ?_
        refine Q_then ?_
        refine K_seq ?_
        refine K_seq ?_
        refine K_region ?_
        refine KV (R_assign rfl) rfl ?_
        refine K_nil ?_
        refine Q_then ?_
        refine K_block ?_
        refine K_loop (G := Nat × View) ⟨fun g => [(2, ptr b2), (3, ptr b3), (8, .int .i64 (g.1 : Int))], fun g => [blk b3 (.cells #[.int .i64 u, .slice a2 us.length cap2] T24 (0, 0)), blk b2 (.cells #[.int .i64 s, .slice a ts.length cap] T24 (0, 0))], fun g => g.2, fun g => g.1 ≤ ts.length ∧ VLe H g.2 ∧ Tr.cmps ts us = Tr.cmps (ts.drop g.1) (us.drop g.1), fun g => ts.length - g.1⟩ (0, H5) ⟨Nat.zero_le _, ((((hle1.trans hle2).trans hle3).trans hle4).trans hle5), rfl⟩ ⟨rfl, rfl, rfl, trivial⟩ rfl rfl ?_
        rintro ⟨k, V⟩ ⟨hk, hV, hcm⟩
        dsimp only at hk hV hcm ⊢
        refine K_seq ?_
        refine K_seq ?_
        refine K_region ?_
        refine KV (R_move rfl) rfl ?_
        refine KV (R_fieldAddr 1 fd24_1 rfl) rfl ?_
        refine KV (R_loadO ty22 1 rfl rfl rfl rfl (fun _ => rfl) rfl) rfl ?_
        refine KV (R_len sl22 rfl) rfl ?_
        refine KV (R_cmp rfl rfl rfl) rfl ?_
        refine K_nil ?_
        refine Q_then ?_
        refine K_if rfl (fun hlt => ?_) (fun hlt => ?_)
        ·
          have hlt' : k < ts.length := by omega
          have hlt2 : k < us.length := by omega
          have htk := Tr.sizes_take ts k hlt'
          have hle' := Tr.sizes_take_le ts (k + 1)
          have htk2 := Tr.sizes_take us k hlt2
          have hle2' := Tr.sizes_take_le us (k + 1)
          have hcd := Tr.cmps_drop hlt' hlt2
          have ha' := ha (by intro e; subst e; simp at hlt')
          have ha2' := ha2 (by intro e; subst e; simp at hlt2)
          subst ha' ha2'
          refine K_skip ?_
          refine Q_then ?_
          refine K_seq ?_
          refine K_block ?_
          refine K_seq ?_
          refine K_regionD (fin := false) (R := [0, 1, 2, 3, 4, 5, 6, 7, 8, 9, 10, 11]) (by kernel_rfl) mixed (.cons_cons _ (.cons_cons _ (List.nil_sublist _))) ?_
          refine D_val rfl rfl rfl (R_fieldAddr 1 fd24_1 rfl) ?_
          refine D_val rfl rfl rfl (R_loadO ty22 1 rfl rfl rfl rfl (fun _ => rfl) rfl) ?_
          refine D_val rfl rfl rfl (R_move rfl) ?_
          refine D_val rfl rfl rfl (R_indexN sl22 ty24 rfl rfl (by omega)) ?_
          refine D_val rfl rfl rfl (R_loadH ty24 rfl ((hA k hlt').2.mono hV) (hA k hlt').1 (fun e => by cases e) rfl) ?_
          refine D_val rfl rfl rfl (R_fieldAddr 1 fd24_1 rfl) ?_
          refine D_val rfl rfl rfl (R_loadO ty22 0 rfl rfl rfl rfl (fun _ => rfl) rfl) ?_
          refine D_val rfl rfl rfl (R_move rfl) ?_
          refine D_val rfl rfl rfl (R_indexN sl22 ty24 rfl rfl (by omega)) ?_
          refine D_val rfl rfl rfl (R_loadH ty24 rfl ((hA2 k hlt2).2.mono hV) (hA2 k hlt2).1 (fun e => by cases e) rfl) ?_
          refine D_call rfl rfl c13 rfl ⟨⟨0, rfl⟩, ⟨1, rfl⟩, trivial⟩ (ih ts[k] us[k] V (cs' k) (ds' k) (by omega) (by omega) (by omega) ((hrec k hlt').mono hV) ((hrec2 k hlt2).mono hV)) ?_
          rintro x6 V' hle6 rfl
          refine D_val rfl rfl rfl (R_assign rfl) ?_
          refine D_done ?_
          refine Q_then ?_
          refine K_seq ?_
          refine K_region ?_
          refine KV (R_move rfl) rfl ?_
          refine KV (R_cmp rfl rfl rfl) rfl ?_
          refine K_nil ?_
          refine Q_then ?_
          refine K_if rfl (fun h55 => ?_) (fun h55 => ?_)
          ·
            refine K_seq ?_
            refine K_region ?_
            refine KV (R_move rfl) rfl ?_
            refine KV (R_assign rfl) rfl ?_
            refine K_nil ?_
            refine Q_then ?_
            refine K_ret ?_
            refine Q_block_ret ?_
            refine Q_then_ret ?_
            refine Q_then_ret ?_
            refine Q_block_ret ?_
            refine Q_then_ret ?_
            refine results_gen (rs := [.tmp 4]) (vs := [_]) rfl ⟨rfl, trivial⟩ ?_
            rw [hunf, if_neg h16, if_neg h24, if_neg h34, hcm, hcd, if_pos h55]; rfl
          ·
            refine K_skip ?_
            refine Q_block ?_
            refine Q_then ?_
            refine K_region ?_
            refine KV (R_move rfl) rfl ?_
            refine KV (R_add rfl rfl (by omega)) rfl ?_
            refine KV (R_assign rfl) rfl ?_
            refine K_nil ?_
            refine Q_next (k + 1, V') ⟨hlt', hV.trans hle6, ?_⟩ (by dsimp only; omega) ⟨rfl, rfl, rfl, trivial⟩ rfl rfl
            dsimp only
            rw [hcm, hcd, if_neg h55]
        ·
          have hk' : k = ts.length := by omega
          subst hk'
          refine K_exit ?_
          refine Q_then_exit ?_
          refine Q_then_exit ?_
          refine Q_block_exit ?_
          refine Q_then ?_
          refine K_seq ?_
          refine K_region ?_
          refine KV (R_assign rfl) rfl ?_
          refine K_nil ?_
          refine Q_then ?_
          refine K_ret ?_
          refine results_gen (rs := [.tmp 4]) (vs := [_]) rfl ⟨rfl, trivial⟩ ?_
          rw [hunf, if_neg h16, if_neg h24, if_neg h34, hcm, List.drop_length]; rfl
end Go.Proofs.X

namespace Go.Proofs.X
open Go Pal Go.Proofs
attribute [local irreducible] Pal.KO Pal.KC Pal.KQ Pal.KD
theorem sl44 : slcOk Tryz.prog T44 T25 := by unfold slcOk; kernel_rfl
theorem z25 : zeroOk Tryz.prog T25 (.slice none 0 0) := .of (by kernel_rfl)
theorem c42 : callable Tryz.prog F42 = true := by kernel_rfl
theorem c43 : callable Tryz.prog F43 = true := by kernel_rfl
theorem ap44 : App Tryz.prog T44 T25 1 24 := .of sl44 (by kernel_rfl)
theorem subsets_spec (a : Au) (most : Int) (vr vu vf : Value) (H : View) (hT : Tab H) (ha : RepAu H a vr vu vf) : Sat Tryz.prog F16 #[.agg #[vr, .int .i64 a.states, vu, vf], .int .i64 most] H
    (fun v H' => ∃ w, v = .tuple #[w, .int .i64 (consM a most).1] ∧ SSI H' w (match (consM a most).2 with | none => [] | some st => st.subs.map els)) := by
  refine enterO (n := 36) (args := [.agg #[vr, .int .i64 a.states, vu, vf], .int .i64 most]) Tryz.func30 rfl rfl rfl fun w0 => ?_
  refine K_seq ?_
  refine K_region ?_
  refine KA (A_box rfl) rfl fun b2 => ?_
  refine KV (R_assign rfl) rfl ?_
  refine KV (R_assign rfl) rfl ?_
  refine K_nil ?_
  refine Q_then ?_
  refine K_seq ?_
  refine K_region ?_
  refine KV (R_loadO ty50 0 rfl rfl rfl rfl (fun e => by cases e) rfl) rfl ?_
  refine KV (R_move rfl) rfl ?_
  refine K_callO (first := []) [] [_] (List.Perm.refl _) c42 rfl rfl rfl (cons_spec a most vr vu vf H ha) ?_
  rintro _ V1 q hle1 ⟨pv, rfl, hpv⟩
  refine KV (R_move rfl) rfl ?_
  refine KV (R_extract rfl rfl) rfl ?_
  refine KV (R_extract rfl rfl) rfl ?_
  refine KV (R_assign rfl) rfl ?_
  refine KV (R_assign rfl) rfl ?_
  refine K_nil ?_
  refine Q_then ?_
  refine K_seq ?_
  refine K_seq ?_
  refine K_region ?_
  refine KV (R_move rfl) rfl ?_
  refine KV (R_cmp rfl rfl rfl) rfl ?_
  refine K_nil ?_
  refine Q_then ?_
  refine K_if rfl (fun h18 => ?_) (fun h18 => ?_)
  ·
    have hcn := consM_ne h18
    refine K_seq ?_
    refine K_region ?_
    refine KV (R_move rfl) rfl ?_
    refine KV (R_assign rfl) rfl ?_
    refine KV (R_assign rfl) rfl ?_
    refine K_nil ?_
    refine Q_then ?_
    refine K_ret ?_
    refine Q_then_ret ?_
    refine results_gen (rs := [.tmp 4, .tmp 5]) (vs := [_, _]) rfl ⟨rfl, ⟨rfl, trivial⟩⟩ ?_
    rw [hcn]
    exact ⟨_, rfl, SSI.nil _ none 0⟩
  ·
    obtain ⟨st, hcs⟩ := consM_eq (a := a) (most := most) (by omega)
    have hc0 : (consM a most).1 = 0 := by omega
    rw [hcs] at hpv
    obtain ⟨B, m1, m2, vrules, rfl, haok, hinv, hby, vsub, hvs, rfl⟩ := hpv
    obtain ⟨sa, scp, rfl⟩ := hvs.shape
    have hle := hinv.le
    have hlm : limM most ≤ 512 := by simp only [limM]; split <;> omega
    refine K_skip ?_
    refine Q_then ?_
    refine K_seq ?_
    refine K_region ?_
    refine KV (R_assign rfl) rfl ?_
    refine K_nil ?_
    refine Q_then ?_
    refine K_seq ?_
    refine K_seq ?_
    refine K_region ?_
    refine KV (R_move rfl) rfl ?_
    refine KV (R_nilCheck rfl) rfl ?_
    refine KV (R_fieldAddr 6 fd95_3 rfl) rfl ?_
    refine KV (R_loadO ty92 0 rfl rfl rfl rfl (fun _ => rfl) rfl) rfl ?_
    refine KV (R_len sl92 rfl) rfl ?_
    refine KV (R_move rfl) rfl ?_
    refine K_nil ?_
    refine Q_then ?_
    refine K_block ?_
    refine K_nilrow T25 1 ?_
    refine K_loop (G := Nat × View × Value × List Value) ⟨fun g => [(2, ptr b2), (8, g.2.2.1), (23, .slice sa st.subs.length scp), (24, .int .i64 st.subs.length), (25, .int .i64 (g.1 : Int))], fun g => [row g.2.2.1 T25 1 g.1 g.2.2.2, blk B (.cells #[vr, .int .i64 a.states, vu, vf, vrules, mp m1, .slice sa st.subs.length scp, mp m2] T95 (0, 0)), mapO m1 (numKV st.subs), row (.slice sa st.subs.length scp) T98 16 st.subs.length (subCells st.subs), mapO m2 (resKV st.res), blk b2 (.cells #[vr, .int .i64 a.states, vu, vf] T50 (0, 0))], fun g => g.2.1, fun g => g.1 ≤ st.subs.length ∧ VLe V1 g.2.1 ∧ RepL (RSI g.2.1) 1 ((st.subs.take g.1).map els) g.2.2.2 ∧ ∃ ad cp, g.2.2.1 = .slice ad g.1 cp, fun g => st.subs.length - g.1⟩ (0, V1, nilS, []) ⟨Nat.zero_le _, VLe.refl V1, .nil, none, 0, rfl⟩ ⟨rfl, rfl, rfl, rfl, rfl, trivial⟩ rfl rfl ?_
    rintro ⟨k, V, w, cells⟩ ⟨hk, hV, hR, hw⟩
    dsimp only at hk hV hR hw ⊢
    obtain ⟨wa, wcp, rfl⟩ := hw
    refine K_seq ?_
    refine K_region ?_
    refine KV (R_cmp rfl rfl rfl) rfl ?_
    refine K_nil ?_
    refine Q_then ?_
    refine K_seq ?_
    refine K_if rfl (fun h26 => ?_) (fun h26 => ?_)
    ·
      have hk' : k < st.subs.length := by omega
      obtain ⟨sg, scp2, hse⟩ : ∃ g cap, Value.slice sa st.subs.length scp = .slice (some ⟨g, 0, none⟩) st.subs.length cap := by
        rcases hvs with ⟨_, h0⟩ | h
        · omega
        · exact h
      cases hse
      refine K_skip ?_
      refine Q_then ?_
      refine K_seq ?_
      refine K_block ?_
      refine K_seq ?_
      refine K_region ?_
      refine KV (R_indexN sl92 ty98 rfl rfl (by omega)) rfl ?_
      refine KV (R_loadRow (v := setV st.subs[k]) ty98 3 rfl rfl rfl (by rw [Nat.zero_add]; exact subCells_get hk') rfl (fun e => by cases e) rfl) rfl ?_
      refine KA (A_alloc z98) rfl fun b10 => ?_
      refine K_storeW ty98 0 rfl rfl rfl rfl rfl rfl rfl ?_
      refine K_nil ?_
      refine Q_then ?_
      refine K_region ?_
      refine KV (R_move rfl) rfl ?_
      refine KV (R_loadW ty98 0 rfl rfl rfl (show Value.agg _ = setV st.subs[k] from rfl)) rfl ?_
      refine K_call c43 rfl rfl (elements_spec st.subs[k] (hinv.bg _ (List.getElem_mem hk')) V (hT.mono (hle1.trans hV))) ?_
      rintro u V2 hle2 hu
      obtain ⟨ea, ecp, rfl⟩ := hu.shape
      refine KA (A_buildSlice (vs := [.slice ea (els st.subs[k]).length ecp]) sl44 ty25 z25 rfl rfl (by simp [Value.cells]) (by simp) rfl (by decide)) rfl fun b32 => ?_
      refine K_append1 1 ap44 rfl rfl rfl rfl rfl rfl ⟨by omega, by omega⟩ rfl fun a33 k33 hn33 => ?_
      refine KV (R_assign rfl) rfl ?_
      refine K_nil ?_
      refine Q_block ?_
      refine Q_then ?_
      refine K_region ?_
      refine KV (R_add rfl rfl (by omega)) rfl ?_
      refine KV (R_move rfl) rfl ?_
      refine K_nil ?_
      refine KQ_sel [0, 1, 1, 1, 1, 1] rfl ?_
      refine Q_next (k + 1, V2, .slice a33 (k + 1) k33, cells ++ [.slice ea (els st.subs[k]).length ecp]) ⟨hk', hV.trans hle2, ?_, _, _, rfl⟩ (by dsimp only; omega) ⟨rfl, rfl, rfl, rfl, rfl, trivial⟩ rfl rfl
      dsimp only
      rw [take_map_succ hk']
      exact (hR.imp fun _ _ h => h.mono hle2).snoc ⟨_, rfl, hu⟩ rfl
    ·
      have hk' : k = st.subs.length := by omega
      subst hk'
      rw [List.take_length] at hR
      refine K_exit ?_
      refine Q_then_exit ?_
      refine Q_then_exit ?_
      refine Q_block_exit ?_
      refine Q_then ?_
      refine K_seq ?_
      refine K_region ?_
      refine KV (R_move rfl) rfl ?_
      refine KV (R_assign rfl) rfl ?_
      refine KV (R_assign rfl) rfl ?_
      refine K_nil ?_
      refine Q_then ?_
      refine K_ret ?_
      refine KQ_pubrow rfl fun Hp hp hrow => ?_
      refine results_gen (rs := [.tmp 4, .tmp 5]) (vs := [_, _]) rfl ⟨rfl, ⟨rfl, trivial⟩⟩ ?_
      rw [hcs, hc0]
      exact ⟨_, rfl, cells, by simpa using hrow.sl, hR.imp fun _ _ h => h.mono hp⟩
end Go.Proofs.X

namespace Go.Proofs.X
open Go Pal Go.Proofs
attribute [local irreducible] Pal.KO Pal.KC Pal.KQ Pal.KD
theorem c2 : callable Tryz.prog F2 = true := by kernel_rfl
theorem ap47 : App Tryz.prog T47 T3 1 8 := .of sl47 (by kernel_rfl)
theorem clone47_spec (xs : List Int) (v : Value) (H : View) (hv : SI H v xs) (hl : xs.length ≤ 1099511627776) : Sat Tryz.prog F45 #[v] H (fun w H' => SI H' w xs) := by
  obtain ⟨a, cp, rfl⟩ := hv.shape
  refine enterO (n := 8) (args := [.slice a xs.length cp]) Tryz.func49 rfl rfl rfl fun w0 => ?_
  refine K_seq ?_
  refine K_region ?_
  refine KV (R_assign rfl) rfl ?_
  refine K_nil ?_
  refine Q_then ?_
  refine K_seq ?_
  refine K_seq ?_
  refine K_region ?_
  refine KV (R_move rfl) rfl ?_
  refine KV (R_sliceNil sl47 rfl rfl) rfl ?_
  refine K_nil ?_
  refine Q_then ?_
  cases a with
  | none =>
    obtain ⟨a2, c2, h2, h3⟩ := hv.1
    cases h2
    have hx0 : xs = [] := by
      rcases h3 with ⟨h3, _⟩ | ⟨b, off, h3, _⟩
      · exact List.eq_nil_of_length_eq_zero h3
      · cases h3
    subst hx0
    refine K_ifT rfl ?_
    refine K_seq ?_
    refine K_region ?_
    refine KV (R_assign rfl) rfl ?_
    refine K_nil ?_
    refine Q_then ?_
    refine K_ret ?_
    refine Q_then_ret ?_
    refine results_gen (rs := [.tmp 2]) (vs := [_]) rfl ⟨rfl, trivial⟩ ?_
    exact ⟨⟨none, 0, rfl, .inl ⟨rfl, rfl⟩⟩, by simp⟩
  | some aa =>
    refine K_ifF rfl ?_
    refine K_skip ?_
    refine Q_then ?_
    refine K_seq ?_
    refine K_region ?_
    refine KA (A_buildSlice (vs := []) sl47 ty3 z3 rfl rfl (by simp) (by simp) rfl (by decide)) rfl fun b5 => ?_
    refine KV (R_move rfl) rfl ?_
    refine K_appendPubH (k := 0) (xs := []) ap47 rfl ⟨_, 0, rfl, .inl ⟨rfl, rfl⟩⟩ rfl rfl hv.1 (by simp [ints]) ⟨by omega, by omega⟩ rfl fun v7 V1 hle1 hv7 => ?_
    refine KV (R_assign rfl) rfl ?_
    refine K_nil ?_
    refine Q_then ?_
    refine K_ret ?_
    refine results_gen (rs := [.tmp 2]) (vs := [_]) rfl ⟨rfl, trivial⟩ ?_
    refine ⟨?_, hv.2⟩
    have h7 := hv7.1
    rw [Nat.zero_add, List.nil_append] at h7
    exact h7

theorem outc_spec (a : Au) (st : DS) (limit : Int) (sym : Nat) (args vals : List Int) (B m1 m2 b14 b6 b12 : Nat) (vr vu vf vrules vsub v : Value) (oa : Option Addr) (ocp : Nat) (H : View) (hinv : st.Inv limit) (hv : SI H v args) (hsym : sym ≤ 4096) (hvl : vals.length ≤ 1099511627776)
    (hb6 : At H b6 0 [ptr B]) (hb12 : At H b12 0 [.int .i64 (sym : Int)]) :
    SatO Tryz.prog F49 #[v, ptr b14, ptr b6, ptr b12] H [blk b14 (.cells #[.slice oa vals.length ocp] T25 (0, 0)), row (.slice oa vals.length ocp) T3 1 vals.length (ints vals), blk B (.cells #[vr, .int .i64 a.states, vu, vf, vrules, mp m1, vsub, mp m2] T95 (0, 0)), mapO m1 (numKV st.subs), row vsub T98 16 st.subs.length (subCells st.subs), mapO m2 (resKV st.res)]
      (fun r _ q' => r = .bool true ∧ ∃ oa' ocp', q' = [blk b14 (.cells #[.slice oa' (vals.length + 1) ocp'] T25 (0, 0)), row (.slice oa' (vals.length + 1) ocp') 3 1 (vals.length + 1) (ints (vals ++ [valM st sym args])), blk B (.cells #[vr, .int .i64 a.states, vu, vf, vrules, mp m1, vsub, mp m2] T95 (0, 0)), mapO m1 (numKV st.subs), row vsub T98 16 st.subs.length (subCells st.subs), mapO m2 (resKV st.res)]) := by
  obtain ⟨aa, acp, rfl⟩ := hv.shape
  have hsi : i64ok (sym : Int) := by simp only [i64ok]; omega
  have hko := keyM_ok hsi hv.2
  obtain ⟨kl, hkl⟩ := tri106.key hko
  refine enterO (n := 17) (args := [.slice aa args.length acp, ptr b14, ptr b6, ptr b12]) Tryz.func53 rfl rfl rfl fun w0 => ?_
  refine K_seq ?_
  refine K_region ?_
  refine KV (R_assign rfl) rfl ?_
  refine K_nil ?_
  refine Q_then ?_
  refine K_seq ?_
  refine K_regionD (fin := true) (R := [0, 1, 2, 3, 4, 5, 6, 7, 8, 9, 10, 11]) (by kernel_rfl) mixed (.cons_cons _ (.cons _ (.cons_cons _ (.cons _ (.cons _ (.cons_cons _ (List.nil_sublist _))))))) ?_
  refine D_val rfl rfl rfl (R_loadO ty25 0 rfl rfl rfl rfl (fun _ => rfl) rfl) ?_
  refine D_val rfl rfl rfl (R_loadH ty87 rfl (hb6) rfl (fun _ => rfl) rfl) ?_
  refine D_val rfl rfl rfl (R_nilCheck rfl) ?_
  refine D_val rfl rfl rfl (R_fieldAddr 7 fd95_4 rfl) ?_
  refine D_val rfl rfl rfl (R_loadO ty93 1 rfl rfl rfl rfl (fun _ => rfl) rfl) ?_
  refine D_val rfl rfl rfl (R_loadH ty3 rfl (hb12) rfl (fun _ => rfl) rfl) ?_
  refine D_val rfl rfl rfl (R_move rfl) ?_
  refine D_call rfl rfl c50 rfl ⟨⟨0, rfl⟩, ⟨2, rfl⟩, ⟨5, rfl⟩, trivial⟩ (key_spec sym args _ H hv) ?_
  rintro _ V1 hle1 rfl
  refine D_val rfl rfl rfl (R_lookup kl106 mt93 z3 2 rfl rfl rfl hkl (resKV_keys tri106 hinv.rk) (resKV_opt hinv.rn _)) ?_
  refine D_alloc rfl rfl rfl (A_buildSlice (vs := [.int .i64 (valM st sym args)]) sl25 ty3 z3 rfl rfl (by simp [Value.cells]) (by simp) rfl (by decide)) fun b15 => ?_
  refine D_append1 1 ap25 rfl rfl rfl rfl rfl rfl ⟨⟨0, rfl⟩, ⟨1, rfl⟩, ⟨4, rfl⟩, trivial⟩ rfl rfl ⟨by omega, by omega⟩ fun a16 k16 hn16 => ?_
  refine D_lastStore ty25 1 rfl rfl rfl rfl rfl rfl rfl rfl ?_
  refine Q_then ?_
  refine K_seq ?_
  refine K_region ?_
  refine KV (R_assign rfl) rfl ?_
  refine K_nil ?_
  refine Q_then ?_
  refine K_ret ?_
  refine results_sel [1, 0, 0, 0, 0, 0] rfl (rs := [.tmp 5]) (vs := [_]) rfl ⟨rfl, trivial⟩ ?_
  refine ⟨rfl, a16, k16, ?_⟩
  rw [ints_snoc]
  rfl
end Go.Proofs.X

namespace Go.Proofs.X
open Go Pal Go.Proofs
attribute [local irreducible] Pal.KO Pal.KC Pal.KQ Pal.KD
theorem ty4 : Ty Tryz.prog T4 false 1 := .of (by kernel_rfl)
theorem ty44 : Ty Tryz.prog T44 false 1 := .of (by kernel_rfl)
theorem ty52 : Ty Tryz.prog T52 false 1 := .of (by kernel_rfl)
theorem ty54 : Ty Tryz.prog T54 true 3 := .of (by kernel_rfl)
theorem sl52 : slcOk Tryz.prog T52 T4 := by unfold slcOk; kernel_rfl
theorem fd54_1 : fldOk Tryz.prog T54 1 1 = true := by kernel_rfl
theorem fd54_2 : fldOk Tryz.prog T54 2 2 = true := by kernel_rfl
theorem z4 : zeroOk Tryz.prog T4 (.bool false) := .of (by kernel_rfl)
theorem z54 : zeroOk Tryz.prog T54 (.agg #[.slice none 0 0, .slice none 0 0, .slice none 0 0]) := .of (by kernel_rfl)
theorem z87 : zeroOk Tryz.prog T87 (.pointer none) := .of (by kernel_rfl)
theorem pl54 : placesOk Tryz.prog T54 [(0, 1), (1, 1), (2, 1)] := ⟨_, Tryz.underlying41, by kernel_rfl⟩
theorem c44 : callable Tryz.prog F44 = true := by kernel_rfl
theorem c45 : callable Tryz.prog F45 = true := by kernel_rfl
theorem c46 : callable Tryz.prog F46 = true := by kernel_rfl
theorem c47 : callable Tryz.prog F47 = true := by kernel_rfl
theorem c49 : callable Tryz.prog F49 = true := by kernel_rfl
theorem ap52 : App Tryz.prog T52 T4 1 1 := .of sl52 (by kernel_rfl)
theorem fromNTA_spec (a : Au) (most : Int) (vr vu vf : Value) (H : View) (ha : RepAu H a vr vu vf) : Sat Tryz.prog F18 #[.agg #[vr, .int .i64 a.states, vu, vf], .int .i64 most] H
    (fun v H' => ∃ v1 v2 v3, v = .tuple #[.agg #[v1, v2, v3], .int .i64 (consM a most).1] ∧ RepDt H' (match (consM a most).2 with | none => ⟨[], [], []⟩ | some st => fromM a st) v1 v2 v3) := by
  have hfl := ha.fl
  have hrl0 := ha.rl
  refine enterO (n := 76) (args := [.agg #[vr, .int .i64 a.states, vu, vf], .int .i64 most]) Tryz.func24 rfl rfl rfl fun w0 => ?_
  refine K_seq ?_
  refine K_region ?_
  refine KA (A_box rfl) rfl fun b2 => ?_
  refine KA (A_alloc z54) rfl fun b4 => ?_
  refine KV (R_assign rfl) rfl ?_
  refine K_nil ?_
  refine Q_then ?_
  refine K_seq ?_
  refine K_region ?_
  refine KV (R_loadO ty50 1 rfl rfl rfl rfl (fun e => by cases e) rfl) rfl ?_
  refine KV (R_move rfl) rfl ?_
  refine K_callO (first := []) [] [_, _] (List.Perm.refl _) c42 rfl rfl rfl (cons_spec a most vr vu vf H ha) ?_
  rintro _ V1 q hle1 ⟨pv, rfl, hpv⟩
  obtain ⟨po, rfl⟩ : ∃ po, pv = .pointer po := by
    revert hpv
    split
    · intro h; exact ⟨_, h⟩
    · rintro ⟨B, _, _, _, h, _⟩; exact ⟨_, h⟩
  refine KV (R_move rfl) rfl ?_
  refine KV (R_extract rfl rfl) rfl ?_
  refine KV (R_extract rfl rfl) rfl ?_
  refine KA (A_alloc z87) rfl fun b6 => ?_
  refine K_store ty87 0 rfl rfl rfl rfl rfl rfl ?_
  refine KV (R_assign rfl) rfl ?_
  refine K_nil ?_
  refine Q_then ?_
  refine K_seq ?_
  refine K_seq ?_
  refine K_region ?_
  refine KV (R_move rfl) rfl ?_
  refine KV (R_cmp rfl rfl rfl) rfl ?_
  refine K_nil ?_
  refine Q_then ?_
  refine K_if rfl (fun h22 => ?_) (fun h22 => ?_)
  ·
    have hcn := consM_ne h22
    refine KC_own [_, _] ((List.sublist_append_right _ _).cons _) ?_
    refine K_seq ?_
    refine K_region ?_
    refine KV (R_build z54 pl54 rfl rfl) rfl ?_
    refine KV (R_move rfl) rfl ?_
    refine K_store ty54 0 rfl rfl rfl rfl rfl rfl ?_
    refine KV (R_assign rfl) rfl ?_
    refine K_nil ?_
    refine Q_then ?_
    refine K_ret ?_
    refine Q_then_ret ?_
    refine results_gen (rs := [.cell 4 41, .tmp 5]) (vs := [_, _]) rfl ⟨⟨_, _, _, _, _, _, 0, rfl, rfl, ty54, (fun e => by cases e), rfl, rfl⟩, ⟨rfl, trivial⟩⟩ ?_
    rw [hcn]
    exact ⟨_, _, _, rfl, ⟨⟨none, 0, rfl, .inl ⟨rfl, rfl⟩⟩, by simp⟩, ⟨none, 0, rfl, .inl ⟨rfl, rfl⟩⟩, SSI.nil _ none 0⟩
  ·
    obtain ⟨st, hcs⟩ := consM_eq (a := a) (most := most) (by omega)
    have hc0 : (consM a most).1 = 0 := by omega
    rw [hcs] at hpv
    obtain ⟨B, m1, m2, vrules, hpB, haok, hinv, hby, vsub, hvs, rfl⟩ := hpv
    cases hpB
    obtain ⟨sa, scp, rfl⟩ := hvs.shape
    have hle := hinv.le
    have hlm : limM most ≤ 512 := by simp only [limM]; split <;> omega
    have hrl := haok.rl
    refine KC_pubnew (by simp [feet]) fun V2 hle2 hb6 => ?_
    have hA6 := At.of hb6
    refine K_skip ?_
    refine Q_then ?_
    refine K_seq ?_
    refine K_region ?_
    refine KV (R_fieldAddr 3 fd50_3 rfl) rfl ?_
    refine KV (R_loadO ty25 5 rfl rfl rfl rfl (fun _ => rfl) rfl) rfl ?_
    refine K_call c44 rfl rfl (of_spec a.final vf V2 ((ha.mono (hle1.trans hle2)).f) hfl) ?_
    rintro _ V3 hle3 rfl
    refine KA (A_alloc z98) rfl fun b8 => ?_
    refine K_storeW ty98 0 rfl rfl rfl rfl rfl rfl rfl ?_
    refine K_nil ?_
    refine Q_then ?_
    refine K_seq ?_
    refine K_region ?_
    refine KV (R_fieldAddr 0 fd50_0 rfl) rfl ?_
    refine KV (R_loadO ty47 6 rfl rfl rfl rfl (fun _ => rfl) rfl) rfl ?_
    refine K_call c45 rfl rfl (clone47_spec a.ranks vr V3 ((ha.mono (hle1.trans (hle2.trans hle3))).r) hrl0) ?_
    rintro vrc V4 hle4 hrc
    obtain ⟨ca, ccp, rfl⟩ := hrc.shape
    refine KV (R_build z54 pl54 rfl rfl) rfl ?_
    refine KA (A_alloc z54) rfl fun b9 => ?_
    refine K_store ty54 0 rfl rfl rfl rfl rfl rfl ?_
    refine K_nil ?_
    refine Q_then ?_
    refine K_seq ?_
    refine K_seq ?_
    refine K_region ?_
    refine KV (R_loadH ty87 rfl (hA6.mono (hle3.trans hle4)) rfl (fun _ => rfl) rfl) rfl ?_
    refine KV (R_nilCheck rfl) rfl ?_
    refine KV (R_fieldAddr 6 fd95_3 rfl) rfl ?_
    refine KV (R_loadO ty92 2 rfl rfl rfl rfl (fun _ => rfl) rfl) rfl ?_
    refine KV (R_len sl92 rfl) rfl ?_
    refine KV (R_move rfl) rfl ?_
    refine K_nil ?_
    refine Q_then ?_
    refine K_block ?_
    refine K_nilrow T4 1 ?_
    refine K_loop (G := Nat × View × Value) ⟨fun g => [(4, ptr b4), (6, ptr b6), (2, ptr b2), (8, ptr b8), (9, ptr b9), (35, .slice sa st.subs.length scp), (36, .int .i64 st.subs.length), (37, .int .i64 (g.1 : Int))], fun g => [row g.2.2 T4 1 g.1 (bools ((accM a st).take g.1)), blk b9 (.cells #[.slice ca a.ranks.length ccp, g.2.2, .slice none 0 0] T54 (0, 0)), blk b8 (.cells (setV (ofL a.final)).cells T98 (0, 0)), blk B (.cells #[vr, .int .i64 a.states, vu, vf, vrules, mp m1, .slice sa st.subs.length scp, mp m2] T95 (0, 0)), mapO m1 (numKV st.subs), row (.slice sa st.subs.length scp) T98 16 st.subs.length (subCells st.subs), mapO m2 (resKV st.res), blk b4 (.cells #[.slice none 0 0, .slice none 0 0, .slice none 0 0] T54 (0, 0)), blk b2 (.cells #[vr, .int .i64 a.states, vu, vf] T50 (0, 0))], fun g => g.2.1, fun g => g.1 ≤ st.subs.length ∧ VLe V4 g.2.1 ∧ ∃ ad cp, g.2.2 = .slice ad g.1 cp, fun g => st.subs.length - g.1⟩ (0, V4, nilS) ⟨Nat.zero_le _, VLe.refl V4, none, 0, rfl⟩ ⟨rfl, rfl, rfl, rfl, rfl, rfl, rfl, rfl, trivial⟩ rfl rfl ?_
    rintro ⟨k, V, w⟩ ⟨hk, hVa, hw⟩
    dsimp only at hk hVa hw ⊢
    obtain ⟨wa, wcp, rfl⟩ := hw
    refine K_seq ?_
    refine K_region ?_
    refine KV (R_cmp rfl rfl rfl) rfl ?_
    refine K_nil ?_
    refine Q_then ?_
    refine K_seq ?_
    refine K_if rfl (fun h38 => ?_) (fun h38 => ?_)
    ·
      have hk' : k < st.subs.length := by omega
      obtain ⟨sg, scp2, hse⟩ : ∃ g cap, Value.slice sa st.subs.length scp = .slice (some ⟨g, 0, none⟩) st.subs.length cap := by
        rcases hvs with ⟨_, h0⟩ | h
        · omega
        · exact h
      cases hse
      refine K_skip ?_
      refine Q_then ?_
      refine K_seq ?_
      refine K_block ?_
      refine K_seq ?_
      refine K_region ?_
      refine KV (R_indexN sl92 ty98 rfl rfl (by omega)) rfl ?_
      refine KV (R_loadRow (v := setV st.subs[k]) ty98 5 rfl rfl rfl (by rw [Nat.zero_add]; exact subCells_get hk') rfl (fun e => by cases e) rfl) rfl ?_
      refine KA (A_alloc z98) rfl fun b11 => ?_
      refine K_storeW ty98 0 rfl rfl rfl rfl rfl rfl rfl ?_
      refine K_nil ?_
      refine Q_then ?_
      refine K_regionD (fin := true) (R := [0, 1, 2, 3, 4, 5, 6, 7, 8, 9, 10]) (by kernel_rfl) mixed (.cons_cons _ (.cons _ (.cons_cons _ (.cons_cons _ (.cons_cons _ (.cons_cons _ (.cons_cons _ (.cons_cons _ (.cons_cons _ (.cons_cons _ (List.nil_sublist _))))))))))) ?_
      refine D_val rfl rfl rfl (R_fieldAddr 1 fd54_1 rfl) ?_
      refine D_val rfl rfl rfl (R_loadO ty52 1 rfl rfl rfl rfl (fun _ => rfl) rfl) ?_
      refine D_val rfl rfl rfl (R_loadW ty98 0 rfl rfl rfl (show Value.agg _ = setV st.subs[k] from rfl)) ?_
      refine D_val rfl rfl rfl (R_loadW ty98 2 rfl rfl rfl (show Value.agg _ = setV (ofL a.final) from rfl)) ?_
      refine D_call rfl rfl c46 rfl ⟨⟨0, rfl⟩, ⟨2, rfl⟩, ⟨3, rfl⟩, ⟨4, rfl⟩, ⟨5, rfl⟩, ⟨6, rfl⟩, ⟨7, rfl⟩, ⟨8, rfl⟩, ⟨9, rfl⟩, trivial⟩ (inter_spec st.subs[k] (ofL a.final) (hinv.bg _ (List.getElem_mem hk')) V) ?_
      rintro _ V5 hle5 rfl
      refine D_call rfl rfl c47 rfl ⟨⟨0, rfl⟩, ⟨2, rfl⟩, ⟨3, rfl⟩, ⟨4, rfl⟩, ⟨5, rfl⟩, ⟨6, rfl⟩, ⟨7, rfl⟩, ⟨8, rfl⟩, ⟨9, rfl⟩, trivial⟩ (isEmpty_spec _ (and_big _ (hinv.bg _ (List.getElem_mem hk'))) V5) ?_
      rintro _ V6 hle6 rfl
      refine D_val rfl rfl rfl (R_not rfl) ?_
      refine D_alloc rfl rfl rfl (A_buildSlice (vs := [.bool (!decide (st.subs[k] &&& ofL a.final = 0))]) sl52 ty4 z4 rfl rfl (by simp [Value.cells]) (by simp) rfl (by decide)) fun b48 => ?_
      refine D_append1 1 ap52 rfl rfl rfl rfl rfl rfl ⟨⟨0, rfl⟩, ⟨1, rfl⟩, ⟨2, rfl⟩, ⟨3, rfl⟩, ⟨4, rfl⟩, ⟨5, rfl⟩, ⟨6, rfl⟩, ⟨7, rfl⟩, ⟨8, rfl⟩, trivial⟩ rfl rfl ⟨by omega, by omega⟩ fun a49 k49 hn49 => ?_
      refine D_val rfl rfl rfl (R_fieldAddr 1 fd54_1 rfl) ?_
      refine D_lastStore ty52 2 rfl rfl rfl rfl rfl rfl rfl rfl ?_
      refine Q_block ?_
      refine Q_then ?_
      refine K_region ?_
      refine KV (R_add rfl rfl (by omega)) rfl ?_
      refine KV (R_move rfl) rfl ?_
      refine K_nil ?_
      refine KQ_sel [0, 1, 1, 1, 1, 1, 1, 1, 1] rfl ?_
      exact Q_next (k + 1, V6, .slice a49 (k + 1) k49) ⟨hk', hVa.trans (hle5.trans hle6), _, _, rfl⟩ (by dsimp only; omega) ⟨rfl, rfl, rfl, rfl, rfl, rfl, rfl, rfl, trivial⟩ (by dsimp only; rw [accM_take a st k hk', bools_snoc]; rfl) rfl
    ·
      have hk' : k = st.subs.length := by omega
      subst hk'
      obtain ⟨ra, rcp, rfl⟩ := ha.r.shape
      refine K_exit ?_
      refine Q_then_exit ?_
      refine Q_then_exit ?_
      refine Q_block_exit ?_
      refine Q_then ?_
      refine K_seq ?_
      refine K_seq ?_
      refine K_region ?_
      refine KV (R_fieldAddr 0 fd50_0 rfl) rfl ?_
      refine KV (R_loadO ty47 8 rfl rfl rfl rfl (fun _ => rfl) rfl) rfl ?_
      refine KV (R_len sl47 rfl) rfl ?_
      refine KV (R_move rfl) rfl ?_
      refine K_nil ?_
      refine Q_then ?_
      refine K_block ?_
      refine K_nilrow T25 1 ?_
      refine K_loop (G := Nat × View × Value × List Value) ⟨fun g => [(4, ptr b4), (6, ptr b6), (2, ptr b2), (9, ptr b9), (53, .slice ra a.ranks.length rcp), (54, .int .i64 a.ranks.length), (55, .int .i64 (g.1 : Int))], fun g => [row g.2.2.1 T25 1 g.1 g.2.2.2, row (.slice wa st.subs.length wcp) T4 1 st.subs.length (bools ((accM a st).take st.subs.length)), blk b9 (.cells #[.slice ca a.ranks.length ccp, .slice wa st.subs.length wcp, g.2.2.1] T54 (0, 0)), blk b8 (.cells (setV (ofL a.final)).cells T98 (0, 0)), blk B (.cells #[.slice ra a.ranks.length rcp, .int .i64 a.states, vu, vf, vrules, mp m1, .slice sa st.subs.length scp, mp m2] T95 (0, 0)), mapO m1 (numKV st.subs), row (.slice sa st.subs.length scp) T98 16 st.subs.length (subCells st.subs), mapO m2 (resKV st.res), blk b4 (.cells #[.slice none 0 0, .slice none 0 0, .slice none 0 0] T54 (0, 0)), blk b2 (.cells #[.slice ra a.ranks.length rcp, .int .i64 a.states, vu, vf] T50 (0, 0))], fun g => g.2.1, fun g => g.1 ≤ a.ranks.length ∧ VLe V g.2.1 ∧ RepL (RSI g.2.1) 1 ((List.range g.1).map (toM a st)) g.2.2.2 ∧ ∃ ad cp, g.2.2.1 = .slice ad g.1 cp, fun g => a.ranks.length - g.1⟩ (0, V, nilS, []) ⟨Nat.zero_le _, VLe.refl V, .nil, none, 0, rfl⟩ ⟨rfl, rfl, rfl, rfl, rfl, rfl, rfl, trivial⟩ rfl rfl ?_
      rintro ⟨s, V7, w, cells⟩ ⟨hs, hV, hR, hw⟩
      dsimp only at hs hV hR hw ⊢
      obtain ⟨za, zcp, rfl⟩ := hw
      refine K_seq ?_
      refine K_region ?_
      refine KV (R_cmp rfl rfl rfl) rfl ?_
      refine K_nil ?_
      refine Q_then ?_
      refine K_seq ?_
      refine K_if rfl (fun h56 => ?_) (fun h56 => ?_)
      ·
        have hs' : s < a.ranks.length := by omega
        obtain ⟨rb, ro, rfl, hrk⟩ := ((ha.mono (hle1.trans (hle2.trans (hle3.trans (hle4.trans (hVa.trans hV)))))).r).get hs'
        refine K_skip ?_
        refine Q_then ?_
        refine K_seq ?_
        refine K_block ?_
        refine K_seq ?_
        refine K_region ?_
        refine KV (R_move rfl) rfl ?_
        refine KV (R_indexN sl47 ty3 rfl rfl (by omega)) rfl ?_
        refine KV (R_loadH ty3 rfl (hrk) rfl (fun _ => rfl) rfl) rfl ?_
        refine KA (A_alloc z3) rfl fun b12 => ?_
        refine K_store ty3 0 rfl rfl rfl rfl rfl rfl ?_
        refine KV (R_assign rfl) rfl ?_
        refine K_nil ?_
        refine KQ_pubnew (by simp [feet]) fun W1 hw1 hb12 => ?_
        have hA12 := At.of hb12
        refine Q_then ?_
        refine K_seq ?_
        refine K_region ?_
        refine KA (A_alloc z25) rfl fun b14 => ?_
        refine K_nil ?_
        refine Q_then ?_
        refine K_seq ?_
        refine K_region ?_
        refine KV (R_move rfl) rfl ?_
        refine KV (R_loadH ty87 rfl (hA6.mono (hle3.trans (hle4.trans (hVa.trans (hV.trans hw1))))) rfl (fun _ => rfl) rfl) rfl ?_
        refine KV (R_nilCheck rfl) rfl ?_
        refine KV (R_fieldAddr 6 fd95_3 rfl) rfl ?_
        refine KV (R_loadO ty92 5 rfl rfl rfl rfl (fun _ => rfl) rfl) rfl ?_
        refine KV (R_len sl92 rfl) rfl ?_
        refine KV (R_makeFunc rfl rfl) rfl ?_
        refine KO_nilrow T3 1 ?_
        refine KO_sel [1, 0, 4, 4, 4, 4, 0, 0, 0, 0, 0, 0] rfl ?_
        have hrs := haok.rk s hs'
        obtain ⟨nn, hnn⟩ : ∃ nn : Nat, a.ranks[s] = (nn : Int) := ⟨a.ranks[s].toNat, by omega⟩
        have hnt : a.ranks[s].toNat = nn := by omega
        have hext : (ext st.subs.length nn []).length ≤ 262144 := by rw [ext_len]; exact pow_le2 (by omega) (by omega)
        have hvis : VisitOk Tryz.prog F49 [ptr b14, ptr b6, ptr b12] W1 (ext st.subs.length nn []) (fun pre q => ∃ oa ocp, q = [blk b14 (.cells #[.slice oa (pre.map (valM st s)).length ocp] T25 (0, 0)), row (.slice oa (pre.map (valM st s)).length ocp) 3 1 (pre.map (valM st s)).length (ints (pre.map (valM st s))), blk B (.cells #[.slice (some ⟨rb, ro, none⟩) a.ranks.length rcp, .int .i64 a.states, vu, vf, vrules, mp m1, .slice sa st.subs.length scp, mp m2] T95 (0, 0)), mapO m1 (numKV st.subs), row (.slice sa st.subs.length scp) T98 16 st.subs.length (subCells st.subs), mapO m2 (resKV st.res)]) (fun _ => False) := by
          rintro G pre xs xa len cp p hlen hle ⟨oa, ocp, rfl⟩ hpf hxs hcp
          have hpl := hpf.length_le
          rw [List.length_append] at hpl
          refine SatO.mono' (outc_spec a st (limM most) s xs (pre.map (valM st s)) B m1 m2 b14 b6 b12 _ vu vf vrules _ _ oa ocp G hinv hxs (by omega) (by rw [List.length_map]; omega) (hA6.mono (hle3.trans (hle4.trans (hVa.trans (hV.trans (hw1.trans hle)))))) (hA12.mono hle)) ?_
          rintro v H' q ⟨rfl, oa', ocp', rfl⟩
          refine ⟨true, rfl, fun _ => ⟨oa', ocp', ?_⟩, fun e => by cases e⟩
          simp only [List.map_append, List.map_cons, List.map_nil, List.length_append, List.length_cons, List.length_nil]

        refine K_callO (first := []) [_, _, _, _, _, _] [_, _, _, _, _, _] (List.Perm.refl _) c48 rfl rfl rfl (hnn ▸ tuples_spec nn st.subs.length F49 [ptr b14, ptr b6, ptr b12] _ _ W1 _ hvis c49 (by omega) (by omega) ⟨none, 0, rfl⟩) ?_
        rintro _ U q hu ⟨r, rfl, hr1, hr2⟩
        obtain rfl : r = true := by
          cases r with
          | false => exact (hr2 rfl).elim
          | true => rfl
        obtain ⟨oa, ocp, rfl⟩ := hr1 rfl
        refine K_nil ?_
        refine KQ_front 1 rfl ?_
        refine KQ_pubrow rfl fun U2 hu2 hrowO => ?_
        refine Q_then ?_
        refine K_region ?_
        refine KV (R_fieldAddr 2 fd54_2 rfl) rfl ?_
        refine KV (R_loadO ty44 7 rfl rfl rfl rfl (fun _ => rfl) rfl) rfl ?_
        refine KV (R_loadO ty25 0 rfl rfl rfl rfl (fun _ => rfl) rfl) rfl ?_
        refine KA (A_buildSlice (vs := [.slice oa ((ext st.subs.length nn []).map (valM st s)).length ocp]) sl44 ty25 z25 rfl rfl (by simp [Value.cells]) (by simp) rfl (by decide)) rfl fun b71 => ?_
        refine K_append1 5 ap44 rfl rfl rfl rfl rfl rfl ⟨by omega, by omega⟩ rfl fun a72 k72 hn72 => ?_
        refine KV (R_fieldAddr 2 fd54_2 rfl) rfl ?_
        refine K_store ty44 7 rfl rfl rfl rfl rfl rfl ?_
        refine K_nil ?_
        refine Q_block ?_
        refine Q_then ?_
        refine K_region ?_
        refine KV (R_add rfl rfl (by omega)) rfl ?_
        refine KV (R_move rfl) rfl ?_
        refine K_nil ?_
        refine KQ_sel [0, 5, 5, 5, 1, 1, 1, 1, 1, 1] rfl ?_
        refine Q_next (s + 1, U2, .slice a72 (s + 1) k72, cells ++ [.slice oa ((ext st.subs.length nn []).map (valM st s)).length ocp]) ⟨hs', hV.trans (hw1.trans (hu.trans hu2)), ?_, _, _, rfl⟩ (by dsimp only; omega) ⟨rfl, rfl, rfl, rfl, rfl, rfl, rfl, trivial⟩ rfl rfl
        dsimp only
        rw [range_map_succ]
        have htm : toM a st s = (ext st.subs.length nn []).map (valM st s) := by
          have h : a.ranks.getD s 0 = a.ranks[s] := by simp [List.getD, hs']
          simp only [toM]
          rw [h, hnt]
        rw [htm]
        refine (hR.imp fun _ _ h => h.mono (hw1.trans (hu.trans hu2))).snoc ⟨_, rfl, hrowO.sl, ?_⟩ rfl
        intro x hx
        obtain ⟨ys, _, rfl⟩ := List.mem_map.1 hx
        exact valM_ok hinv (by omega) _ _
      ·
        have hs' : s = a.ranks.length := by omega
        subst hs'
        refine K_exit ?_
        refine Q_then_exit ?_
        refine Q_then_exit ?_
        refine Q_block_exit ?_
        refine Q_then ?_
        refine K_seq ?_
        refine K_region ?_
        refine KV (R_loadO ty54 2 rfl rfl rfl rfl (fun e => by cases e) rfl) rfl ?_
        refine K_store ty54 8 rfl rfl rfl rfl rfl rfl ?_
        refine KV (R_assign rfl) rfl ?_
        refine K_nil ?_
        refine Q_then ?_
        refine K_ret ?_
        refine KQ_front 1 rfl ?_
        refine KQ_pubrow rfl fun HpA hpA hrowA => ?_
        refine KQ_pubrow rfl fun HpB hpB hrowB => ?_
        refine results_gen (rs := [.cell 4 41, .tmp 5]) (vs := [_, _]) rfl ⟨⟨_, _, _, _, _, _, 6, rfl, rfl, ty54, (fun e => by cases e), rfl, rfl⟩, ⟨rfl, trivial⟩⟩ ?_
        rw [hcs, hc0]
        have hal : (accM a st).length = st.subs.length := by simp [accM]
        have hta : (accM a st).take st.subs.length = accM a st := by rw [← hal, List.take_length]
        have hA := hrowA.sl
        rw [hta] at hA
        refine ⟨_, _, _, rfl, ⟨hrc.mono (hVa.trans (hV.trans (hpA.trans hpB))), ?_, cells, ?_, hR.imp fun _ _ h => h.mono (hpA.trans hpB)⟩⟩
        · show SlAt _ _ (accM a st).length _
          rw [hal]
          exact hA.mono hpB
        · have hB := hrowB.sl
          simpa [fromM] using hB
end Go.Proofs.X

namespace Go.Proofs.X
open Go Pal Go.Proofs
attribute [local irreducible] Pal.KO Pal.KC Pal.KQ Pal.KD
theorem c60 : callable Tryz.prog F60 = true := by kernel_rfl
theorem cmpl_spec (xs ys : List Int) (v w : Value) (H : View) (hv : SI H v xs) (hw : SI H w ys) (hx : xs.length ≤ 1099511627776) (hy : ys.length ≤ 1099511627776) : Sat Tryz.prog F60 #[v, w] H (fun r _ => r = .int .i64 (cmpL xs ys)) := by
  obtain ⟨xa, xcp, rfl⟩ := hv.shape
  obtain ⟨ya, ycp, rfl⟩ := hw.shape
  refine enterO (n := 46) (args := [.slice xa xs.length xcp, .slice ya ys.length ycp]) Tryz.func68 rfl rfl rfl fun w0 => ?_
  refine K_seq ?_
  refine K_region ?_
  refine KV (R_assign rfl) rfl ?_
  refine K_nil ?_
  refine Q_then ?_
  refine K_seq ?_
  refine K_seq ?_
  refine K_region ?_
  refine KV (R_assign rfl) rfl ?_
  refine K_nil ?_
  refine Q_then ?_
  refine K_block ?_
  refine K_loop (G := Nat) ⟨fun g => [(0, .slice xa xs.length xcp), (1, .slice ya ys.length ycp), (5, .int .i64 (g : Int))], fun g => [], fun g => H, fun g => g ≤ xs.length ∧ g ≤ ys.length ∧ cmpL xs ys = cmpL (xs.drop g) (ys.drop g), fun g => xs.length - g⟩ 0 ⟨Nat.zero_le _, Nat.zero_le _, rfl⟩ ⟨rfl, rfl, rfl, trivial⟩ rfl rfl ?_
  rintro k ⟨hk1, hk2, hc⟩
  dsimp only at hk1 hk2 hc ⊢
  refine K_seq ?_
  refine K_seq ?_
  refine K_region ?_
  refine KV (R_move rfl) rfl ?_
  refine KV (R_move rfl) rfl ?_
  refine KV (R_len sl25 rfl) rfl ?_
  refine KV (R_cmp rfl rfl rfl) rfl ?_
  refine KV (R_move rfl) rfl ?_
  refine K_split ?_ ?_
  ·
    intro h10
    refine K_gyes rfl rfl ?_
    refine KV (R_move rfl) rfl ?_
    refine K_gyes rfl rfl ?_
    refine KV (R_move rfl) rfl ?_
    refine K_gyes rfl rfl ?_
    refine KV (R_len sl25 rfl) rfl ?_
    refine K_gyes rfl rfl ?_
    refine KV (R_cmp rfl rfl rfl) rfl ?_
    refine KV (R_pickT rfl rfl) rfl ?_
    refine K_nil ?_
    refine Q_then ?_
    refine K_if rfl (fun h15 => ?_) (fun h15 => ?_)
    ·
      have hx1 : k < xs.length := by omega
      have hy1 : k < ys.length := by omega
      obtain ⟨xb, xo, rfl, hxa⟩ := hv.get hx1
      obtain ⟨yb, yo, rfl, hya⟩ := hw.get hy1
      have hcx : cmpL (xs.drop k) (ys.drop k) = if xs[k] < ys[k] then -1 else if ys[k] < xs[k] then 1 else cmpL (xs.drop (k + 1)) (ys.drop (k + 1)) := by
        rw [List.drop_eq_getElem_cons hx1, List.drop_eq_getElem_cons hy1]; rfl
      refine K_skip ?_
      refine Q_then ?_
      refine K_seq ?_
      refine K_block ?_
      refine K_seq ?_
      refine K_seq ?_
      refine K_regionD (fin := false) (R := [0, 1, 2, 3, 4, 5, 6, 7, 8]) (by kernel_rfl) mixed (List.nil_sublist _) ?_
      refine D_val rfl rfl rfl (R_move rfl) ?_
      refine D_val rfl rfl rfl (R_move rfl) ?_
      refine D_val rfl rfl rfl (R_indexN sl25 ty3 rfl rfl (by omega)) ?_
      refine D_val rfl rfl rfl (R_loadH ty3 rfl (hxa) rfl (fun _ => rfl) rfl) ?_
      refine D_val rfl rfl rfl (R_move rfl) ?_
      refine D_val rfl rfl rfl (R_move rfl) ?_
      refine D_val rfl rfl rfl (R_indexN sl25 ty3 rfl rfl (by omega)) ?_
      refine D_val rfl rfl rfl (R_loadH ty3 rfl (hya) rfl (fun _ => rfl) rfl) ?_
      refine D_val rfl rfl rfl (R_cmp rfl rfl rfl) ?_
      refine D_done ?_
      refine Q_then ?_
      refine K_if rfl (fun h26 => ?_) (fun h26 => ?_)
      ·
        refine K_seq ?_
        refine K_region ?_
        refine KV (R_assign rfl) rfl ?_
        refine K_nil ?_
        refine Q_then ?_
        refine K_ret ?_
        refine Q_then_ret ?_
        refine Q_block_ret ?_
        refine Q_then_ret ?_
        refine Q_then_ret ?_
        refine Q_block_ret ?_
        refine Q_then_ret ?_
        refine results_gen (rs := [.tmp 4]) (vs := [_]) rfl ⟨rfl, trivial⟩ ?_
        rw [hc, hcx, if_pos h26]
        rfl
      ·
        refine K_skip ?_
        refine Q_then ?_
        refine K_seq ?_
        refine K_regionD (fin := false) (R := [0, 1, 2, 3, 4, 5, 6, 7, 8]) (by kernel_rfl) mixed (List.nil_sublist _) ?_
        refine D_val rfl rfl rfl (R_move rfl) ?_
        refine D_val rfl rfl rfl (R_move rfl) ?_
        refine D_val rfl rfl rfl (R_indexN sl25 ty3 rfl rfl (by omega)) ?_
        refine D_val rfl rfl rfl (R_loadH ty3 rfl (hxa) rfl (fun _ => rfl) rfl) ?_
        refine D_val rfl rfl rfl (R_move rfl) ?_
        refine D_val rfl rfl rfl (R_move rfl) ?_
        refine D_val rfl rfl rfl (R_indexN sl25 ty3 rfl rfl (by omega)) ?_
        refine D_val rfl rfl rfl (R_loadH ty3 rfl (hya) rfl (fun _ => rfl) rfl) ?_
        refine D_val rfl rfl rfl (R_cmp rfl rfl rfl) ?_
        refine D_done ?_
        refine Q_then ?_
        refine K_if rfl (fun h35 => ?_) (fun h35 => ?_)
        ·
          refine K_seq ?_
          refine K_region ?_
          refine KV (R_assign rfl) rfl ?_
          refine K_nil ?_
          refine Q_then ?_
          refine K_ret ?_
          refine Q_block_ret ?_
          refine Q_then_ret ?_
          refine Q_then_ret ?_
          refine Q_block_ret ?_
          refine Q_then_ret ?_
          refine results_gen (rs := [.tmp 4]) (vs := [_]) rfl ⟨rfl, trivial⟩ ?_
          rw [hc, hcx, if_neg h26, if_pos h35]
          rfl
        ·
          refine K_skip ?_
          refine Q_block ?_
          refine Q_then ?_
          refine K_region ?_
          refine KV (R_move rfl) rfl ?_
          refine KV (R_add rfl rfl (by omega)) rfl ?_
          refine KV (R_assign rfl) rfl ?_
          refine K_nil ?_
          exact Q_next (k + 1) ⟨hx1, hy1, by rw [hc, hcx, if_neg h26, if_neg h35]⟩ (by dsimp only; omega) ⟨rfl, rfl, rfl, trivial⟩ rfl rfl
    ·
      have hend := cmpL_end hk1 hk2 (.inr (by omega))
      refine K_exit ?_
      refine Q_then_exit ?_
      refine Q_then_exit ?_
      refine Q_block_exit ?_
      refine Q_then ?_
      refine K_seq ?_
      refine K_seq ?_
      refine K_region ?_
      refine KV (R_move rfl) rfl ?_
      refine KV (R_len sl25 rfl) rfl ?_
      refine KV (R_move rfl) rfl ?_
      refine KV (R_len sl25 rfl) rfl ?_
      refine KV (R_cmp rfl rfl rfl) rfl ?_
      refine K_nil ?_
      refine Q_then ?_
      refine K_if rfl (fun h40 => ?_) (fun h40 => ?_)
      ·
        refine K_seq ?_
        refine K_region ?_
        refine KV (R_assign rfl) rfl ?_
        refine K_nil ?_
        refine Q_then ?_
        refine K_ret ?_
        refine Q_then_ret ?_
        refine results_gen (rs := [.tmp 4]) (vs := [_]) rfl ⟨rfl, trivial⟩ ?_
        rw [hc, hend, if_pos (by omega)]
        rfl
      ·
        refine K_skip ?_
        refine Q_then ?_
        refine K_seq ?_
        refine K_seq ?_
        refine K_region ?_
        refine KV (R_move rfl) rfl ?_
        refine KV (R_len sl25 rfl) rfl ?_
        refine KV (R_move rfl) rfl ?_
        refine KV (R_len sl25 rfl) rfl ?_
        refine KV (R_cmp rfl rfl rfl) rfl ?_
        refine K_nil ?_
        refine Q_then ?_
        refine K_if rfl (fun h45 => ?_) (fun h45 => ?_)
        ·
          refine K_seq ?_
          refine K_region ?_
          refine KV (R_assign rfl) rfl ?_
          refine K_nil ?_
          refine Q_then ?_
          refine K_ret ?_
          refine Q_then_ret ?_
          refine results_gen (rs := [.tmp 4]) (vs := [_]) rfl ⟨rfl, trivial⟩ ?_
          rw [hc, hend, if_neg (by omega), if_pos (by omega)]
          rfl
        ·
          refine K_skip ?_
          refine Q_then ?_
          refine K_seq ?_
          refine K_region ?_
          refine KV (R_assign rfl) rfl ?_
          refine K_nil ?_
          refine Q_then ?_
          refine K_ret ?_
          refine results_gen (rs := [.tmp 4]) (vs := [_]) rfl ⟨rfl, trivial⟩ ?_
          rw [hc, hend, if_neg (by omega), if_neg (by omega)]
          rfl
  ·
    intro h10
    have hend := cmpL_end hk1 hk2 (.inl (by omega))
    refine K_gno rfl rfl rfl rfl ?_
    refine K_gno rfl rfl rfl rfl ?_
    refine K_gno rfl rfl rfl rfl ?_
    refine K_gno rfl rfl rfl rfl ?_
    refine KV (R_pickF rfl rfl) rfl ?_
    refine K_nil ?_
    refine Q_then ?_
    refine K_ifF rfl ?_
    refine K_exit ?_
    refine Q_then_exit ?_
    refine Q_then_exit ?_
    refine Q_block_exit ?_
    refine Q_then ?_
    refine K_seq ?_
    refine K_seq ?_
    refine K_region ?_
    refine KV (R_move rfl) rfl ?_
    refine KV (R_len sl25 rfl) rfl ?_
    refine KV (R_move rfl) rfl ?_
    refine KV (R_len sl25 rfl) rfl ?_
    refine KV (R_cmp rfl rfl rfl) rfl ?_
    refine K_nil ?_
    refine Q_then ?_
    refine K_if rfl (fun h40 => ?_) (fun h40 => ?_)
    ·
      refine K_seq ?_
      refine K_region ?_
      refine KV (R_assign rfl) rfl ?_
      refine K_nil ?_
      refine Q_then ?_
      refine K_ret ?_
      refine Q_then_ret ?_
      refine results_gen (rs := [.tmp 4]) (vs := [_]) rfl ⟨rfl, trivial⟩ ?_
      rw [hc, hend, if_pos (by omega)]
      rfl
    ·
      refine K_skip ?_
      refine Q_then ?_
      refine K_seq ?_
      refine K_seq ?_
      refine K_region ?_
      refine KV (R_move rfl) rfl ?_
      refine KV (R_len sl25 rfl) rfl ?_
      refine KV (R_move rfl) rfl ?_
      refine KV (R_len sl25 rfl) rfl ?_
      refine KV (R_cmp rfl rfl rfl) rfl ?_
      refine K_nil ?_
      refine Q_then ?_
      refine K_if rfl (fun h45 => ?_) (fun h45 => ?_)
      ·
        refine K_seq ?_
        refine K_region ?_
        refine KV (R_assign rfl) rfl ?_
        refine K_nil ?_
        refine Q_then ?_
        refine K_ret ?_
        refine Q_then_ret ?_
        refine results_gen (rs := [.tmp 4]) (vs := [_]) rfl ⟨rfl, trivial⟩ ?_
        rw [hc, hend, if_neg (by omega), if_pos (by omega)]
        rfl
      ·
        refine K_skip ?_
        refine Q_then ?_
        refine K_seq ?_
        refine K_region ?_
        refine KV (R_assign rfl) rfl ?_
        refine K_nil ?_
        refine Q_then ?_
        refine K_ret ?_
        refine results_gen (rs := [.tmp 4]) (vs := [_]) rfl ⟨rfl, trivial⟩ ?_
        rw [hc, hend, if_neg (by omega), if_neg (by omega)]
        rfl

theorem same_spec (xs ys : List Int) (v w : Value) (H : View) (hv : SI H v xs) (hw : SI H w ys) (hx : xs.length ≤ 1099511627776) (hy : ys.length ≤ 1099511627776) : Sat Tryz.prog F22 #[v, w] H (fun r _ => r = .bool (decide (xs = ys))) := by
  refine enterO (n := 9) (args := [v, w]) Tryz.func31 rfl rfl rfl fun w0 => ?_
  refine K_seq ?_
  refine K_region ?_
  refine KV (R_assign rfl) rfl ?_
  refine K_nil ?_
  refine Q_then ?_
  refine K_seq ?_
  refine K_region ?_
  refine KV (R_move rfl) rfl ?_
  refine KV (R_move rfl) rfl ?_
  refine K_call c60 rfl rfl (cmpl_spec xs ys v w H hv hw hx hy) ?_
  rintro _ V' hle rfl
  refine KV (R_cmp rfl rfl rfl) rfl ?_
  refine KV (R_assign rfl) rfl ?_
  refine K_nil ?_
  refine Q_then ?_
  refine K_ret ?_
  refine results_gen (rs := [.tmp 4]) (vs := [_]) rfl ⟨rfl, trivial⟩ ?_
  refine congrArg Value.bool ?_
  simp only [decide_eq_decide]
  exact cmpL_eq
end Go.Proofs.X

namespace Go.Proofs.X
open Go Pal Go.Proofs
attribute [local irreducible] Pal.KO Pal.KC Pal.KQ Pal.KD
theorem z50 : zeroOk Tryz.prog T50 (.agg #[.slice none 0 0, .int .i64 0, .slice none 0 0, .slice none 0 0]) := .of (by kernel_rfl)
theorem pl50 : placesOk Tryz.prog T50 [(0, 1), (1, 1), (2, 1), (3, 1)] := ⟨_, Tryz.underlying62, by kernel_rfl⟩
theorem pl85 : placesOk Tryz.prog T85 [(0, 1), (1, 1), (2, 1)] := ⟨_, Tryz.underlying73, by kernel_rfl⟩
theorem c16 : callable Tryz.prog F16 = true := by kernel_rfl
theorem c18 : callable Tryz.prog F18 = true := by kernel_rfl
theorem c22 : callable Tryz.prog F22 = true := by kernel_rfl
theorem known_spec (H : View) (hT : Tab H) : Sat Tryz.prog F7 #[] H (fun v _ => v = .bool true) := by
  obtain ⟨st, hkn, hels, hacc⟩ := known_cons
  refine enterO (n := 75) (args := []) Tryz.func6 rfl rfl rfl fun w0 => ?_
  refine K_seq ?_
  refine K_region ?_
  refine KV (R_assign rfl) rfl ?_
  refine K_nil ?_
  refine Q_then ?_
  refine K_seq ?_
  refine K_region ?_
  refine KA (A_buildSlice (vs := [.int .i64 0, .int .i64 2]) sl47 ty3 z3 rfl rfl (by simp [Value.cells]) (by simp) rfl (by decide)) rfl fun b6 => ?_
  refine KV (R_build z85 pl85 rfl rfl) rfl ?_
  refine KV (R_build z85 pl85 rfl rfl) rfl ?_
  refine KA (A_buildSlice (vs := [.int .i64 0, .int .i64 1]) sl25 ty3 z3 rfl rfl (by simp [Value.cells]) (by simp) rfl (by decide)) rfl fun b9 => ?_
  refine KV (R_build z85 pl85 rfl rfl) rfl ?_
  refine KA (A_buildSlice (vs := [.agg #[.int .i64 0, .slice none 0 0, .int .i64 0], .agg #[.int .i64 0, .slice none 0 0, .int .i64 1], .agg #[.int .i64 1, slc 2 b9, .int .i64 1]]) sl48 ty85 z85 rfl rfl (by simp [Value.cells]) (by simp) rfl (by decide)) rfl fun b11 => ?_
  refine KA (A_buildSlice (vs := [.int .i64 1]) sl25 ty3 z3 rfl rfl (by simp [Value.cells]) (by simp) rfl (by decide)) rfl fun b12 => ?_
  refine KV (R_build z50 pl50 rfl rfl) rfl ?_
  refine KA (A_alloc z50) rfl fun b1 => ?_
  refine K_store ty50 0 rfl rfl rfl rfl rfl rfl ?_
  refine K_nil ?_
  refine KQ_front 1 rfl ?_
  refine KQ_pubnew (by simp [feet]) fun V1 hv1 hb12 => ?_
  refine KQ_front 1 rfl ?_
  refine KQ_pubnew (by simp [feet]) fun V2 hv2 hb11 => ?_
  refine KQ_front 1 rfl ?_
  refine KQ_pubnew (by simp [feet]) fun V3 hv3 hb9 => ?_
  refine KQ_front 1 rfl ?_
  refine KQ_pubnew (by simp [feet]) fun V4 hv4 hb6 => ?_
  have hi : ∀ x : Int, x = 0 ∨ x = 1 ∨ x = 2 → i64ok x := by intro x hx; simp only [i64ok]; omega
  have hsn : ∀ V, SI V (.slice none 0 0) [] := fun V => ⟨⟨none, 0, rfl, .inl ⟨rfl, rfl⟩⟩, by simp⟩
  have hs9 : SI V4 (slc 2 b9) [0, 1] := ⟨⟨_, _, rfl, .inr ⟨b9, 0, rfl, (At.of hb9).mono hv4⟩⟩, fun x hx => hi x (by simp at hx; omega)⟩
  have hrep : RepAu V4 knownA (slc 2 b6) (slc 3 b11) (slc 1 b12) := by
    refine ⟨⟨⟨_, _, rfl, .inr ⟨b6, 0, rfl, At.of hb6⟩⟩, fun x hx => hi x (by simp [knownA] at hx; omega)⟩, ⟨_, ⟨_, _, rfl, .inr ⟨b11, 0, rfl, (At.of hb11).mono (hv3.trans hv4)⟩⟩, ?_⟩, ⟨⟨_, _, rfl, .inr ⟨b12, 0, rfl, (At.of hb12).mono (hv2.trans (hv3.trans hv4))⟩⟩, fun x hx => hi x (by simp [knownA] at hx; omega)⟩, hi 2 (by simp), by decide, by decide, by decide⟩
    have r1 : RepR V4 ⟨0, [], 0⟩ [.int .i64 0, .slice none 0 0, .int .i64 0] := ⟨none, 0, rfl, hsn _, hi 0 (by simp), hi 0 (by simp), by decide⟩
    have r2 : RepR V4 ⟨0, [], 1⟩ [.int .i64 0, .slice none 0 0, .int .i64 1] := ⟨none, 0, rfl, hsn _, hi 0 (by simp), hi 1 (by simp), by decide⟩
    have r3 : RepR V4 ⟨1, [0, 1], 1⟩ [.int .i64 1, slc 2 b9, .int .i64 1] := ⟨_, _, rfl, hs9, hi 1 (by simp), hi 1 (by simp), by decide⟩
    exact ((RepL.one r1 rfl).snoc r2 rfl).snoc r3 rfl
  have hT4 : Tab V4 := hT.mono (hv1.trans (hv2.trans (hv3.trans hv4)))
  refine Q_then ?_
  refine K_seq ?_
  refine K_region ?_
  refine KV (R_loadO ty50 0 rfl rfl rfl rfl (fun e => by cases e) rfl) rfl ?_
  refine K_call c16 rfl rfl (subsets_spec knownA 9 (slc 2 b6) (slc 3 b11) (slc 1 b12) V4 hT4 hrep) ?_
  rintro _ V5 hv5 ⟨w, rfl, hw⟩
  rw [hkn] at hw ⊢
  dsimp only at hw
  rw [hels] at hw
  obtain ⟨wa, wcp, rfl⟩ := hw.shape
  refine KV (R_move rfl) rfl ?_
  refine KV (R_extract rfl rfl) rfl ?_
  refine KV (R_extract rfl rfl) rfl ?_
  refine KV (R_assign rfl) rfl ?_
  refine KV (R_assign rfl) rfl ?_
  refine K_nil ?_
  refine Q_then ?_
  refine K_seq ?_
  refine K_region ?_
  refine KV (R_loadO ty50 0 rfl rfl rfl rfl (fun e => by cases e) rfl) rfl ?_
  refine K_call c18 rfl rfl (fromNTA_spec knownA 9 (slc 2 b6) (slc 3 b11) (slc 1 b12) V5 (hrep.mono hv5)) ?_
  rintro _ V6 hv6 ⟨v1, v2, v3, rfl, hd⟩
  rw [hkn] at hd ⊢
  dsimp only at hd
  have hac : SB V6 v2 [true, true, false] := hacc ▸ hd.a
  obtain ⟨da, dcp, rfl⟩ := hd.r.shape
  obtain ⟨ta, tcp, rfl⟩ := hd.t.shape
  obtain ⟨ca, ccp, rfl, _⟩ := id hac
  have hw6 := hw.mono hv6
  obtain ⟨wb, wo, e0, kc0, hwa, h0, s0⟩ := hw6.get (i := 0) (by decide)
  subst hwa
  obtain ⟨wb1, wo1, e1, kc1, hwa1, h1, s1⟩ := hw6.get (i := 1) (by decide)
  cases hwa1
  obtain ⟨wb2, wo2, e2, kc2, hwa2, h2, s2⟩ := hw6.get (i := 2) (by decide)
  cases hwa2
  obtain ⟨cb, co, hca, ha1⟩ := hac.get (i := 1) (by decide)
  subst hca
  obtain ⟨cb2, co2, hca2, ha2⟩ := hac.get (i := 2) (by decide)
  cases hca2
  refine KV (R_move rfl) rfl ?_
  refine KV (R_extract rfl rfl) rfl ?_
  refine KV (R_extract rfl rfl) rfl ?_
  refine KA (A_alloc z54) rfl fun b4 => ?_
  refine K_store ty54 0 rfl rfl rfl rfl rfl rfl ?_
  refine KV (R_assign rfl) rfl ?_
  refine K_nil ?_
  refine Q_then ?_
  refine K_seq ?_
  refine K_region ?_
  refine KV (R_move rfl) rfl ?_
  refine KV (R_cmp rfl rfl rfl) rfl ?_
  refine KV (R_move rfl) rfl ?_
  refine K_split ?_ ?_
  ·
    intro h26
    refine K_gyes rfl rfl ?_
    refine KV (R_move rfl) rfl ?_
    refine K_gyes rfl rfl ?_
    refine KV (R_cmp rfl rfl rfl) rfl ?_
    refine KV (R_pickT rfl rfl) rfl ?_
    refine KV (R_move rfl) rfl ?_
    refine K_split ?_ ?_
    ·
      intro h30
      refine K_gyes rfl rfl ?_
      refine KV (R_move rfl) rfl ?_
      refine K_gyes rfl rfl ?_
      refine KV (R_len sl44 rfl) rfl ?_
      refine K_gyes rfl rfl ?_
      refine KV (R_cmp rfl rfl rfl) rfl ?_
      refine KV (R_pickT rfl rfl) rfl ?_
      refine KV (R_move rfl) rfl ?_
      refine K_split ?_ ?_
      ·
        intro h35
        refine K_gyes rfl rfl ?_
        refine KV (R_move rfl) rfl ?_
        refine K_gyes rfl rfl ?_
        refine KV (R_index sl44 ty25 rfl rfl ⟨by decide, by decide⟩) rfl ?_
        refine K_gyes rfl rfl ?_
        refine KV (R_loadH ty25 rfl (h0) rfl (fun _ => rfl) rfl) rfl ?_
        refine K_gyes rfl rfl ?_
        refine KA (A_buildSlice (vs := [.int .i64 0, .int .i64 1]) sl25 ty3 z3 rfl rfl (by simp [Value.cells]) (by simp) rfl (by decide)) rfl fun b39 => ?_
        refine KO_pubnew (by simp [feet]) fun W1 hw1 hb39 => ?_
        refine K_gyes rfl rfl ?_
        refine K_call c22 rfl rfl (same_spec _ [0, 1] _ _ W1 (s0.mono hw1) ⟨⟨_, _, rfl, .inr ⟨b39, 0, rfl, At.of hb39⟩⟩, fun x hx => hi x (by simp at hx; omega)⟩ (by decide) (by decide)) ?_
        rintro _ W2 hw2 rfl
        refine KV (R_pickT rfl rfl) rfl ?_
        refine KV (R_move rfl) rfl ?_
        refine K_split ?_ ?_
        ·
          intro h42
          refine K_gyes rfl rfl ?_
          refine KV (R_move rfl) rfl ?_
          refine K_gyes rfl rfl ?_
          refine KV (R_index sl44 ty25 rfl rfl ⟨by decide, by decide⟩) rfl ?_
          refine K_gyes rfl rfl ?_
          refine KV (R_loadH ty25 rfl (h1.mono (hw1.trans hw2)) rfl (fun _ => rfl) rfl) rfl ?_
          refine K_gyes rfl rfl ?_
          refine KA (A_buildSlice (vs := [.int .i64 1]) sl25 ty3 z3 rfl rfl (by simp [Value.cells]) (by simp) rfl (by decide)) rfl fun b46 => ?_
          refine KO_pubnew (by simp [feet]) fun W3 hw3 hb46 => ?_
          refine K_gyes rfl rfl ?_
          refine K_call c22 rfl rfl (same_spec _ [1] _ _ W3 (s1.mono (hw1.trans (hw2.trans hw3))) ⟨⟨_, _, rfl, .inr ⟨b46, 0, rfl, At.of hb46⟩⟩, fun x hx => hi x (by simp at hx; omega)⟩ (by decide) (by decide)) ?_
          rintro _ W4 hw4 rfl
          refine KV (R_pickT rfl rfl) rfl ?_
          refine KV (R_move rfl) rfl ?_
          refine K_split ?_ ?_
          ·
            intro h49
            refine K_gyes rfl rfl ?_
            refine KV (R_move rfl) rfl ?_
            refine K_gyes rfl rfl ?_
            refine KV (R_index sl44 ty25 rfl rfl ⟨by decide, by decide⟩) rfl ?_
            refine K_gyes rfl rfl ?_
            refine KV (R_loadH ty25 rfl (h2.mono (hw1.trans (hw2.trans (hw3.trans hw4)))) rfl (fun _ => rfl) rfl) rfl ?_
            refine K_gyes rfl rfl ?_
            refine KV (R_len sl25 rfl) rfl ?_
            refine K_gyes rfl rfl ?_
            refine KV (R_cmp rfl rfl rfl) rfl ?_
            refine KV (R_pickT rfl rfl) rfl ?_
            refine KV (R_move rfl) rfl ?_
            refine K_split ?_ ?_
            ·
              intro h56
              refine K_gyes rfl rfl ?_
              refine KV (R_fieldAddr 1 fd54_1 rfl) rfl ?_
              refine K_gyes rfl rfl ?_
              refine KV (R_loadO ty52 0 rfl rfl rfl rfl (fun _ => rfl) rfl) rfl ?_
              refine K_gyes rfl rfl ?_
              refine KV (R_len sl52 rfl) rfl ?_
              refine K_gyes rfl rfl ?_
              refine KV (R_cmp rfl rfl rfl) rfl ?_
              refine KV (R_pickT rfl rfl) rfl ?_
              refine KV (R_move rfl) rfl ?_
              refine K_split ?_ ?_
              ·
                intro h62
                refine K_gyes rfl rfl ?_
                refine KV (R_fieldAddr 1 fd54_1 rfl) rfl ?_
                refine K_gyes rfl rfl ?_
                refine KV (R_loadO ty52 0 rfl rfl rfl rfl (fun _ => rfl) rfl) rfl ?_
                refine K_gyes rfl rfl ?_
                refine KV (R_index sl52 ty4 rfl rfl ⟨by decide, by decide⟩) rfl ?_
                refine K_gyes rfl rfl ?_
                refine KV (R_loadH ty4 rfl (ha1.mono (hw1.trans (hw2.trans (hw3.trans hw4)))) rfl (fun _ => rfl) rfl) rfl ?_
                refine KV (R_pickT rfl rfl) rfl ?_
                refine KV (R_move rfl) rfl ?_
                refine K_splitB ?_ ?_
                ·
                  intro h68
                  refine K_gyes rfl rfl ?_
                  refine KV (R_fieldAddr 1 fd54_1 rfl) rfl ?_
                  refine K_gyes rfl rfl ?_
                  refine KV (R_loadO ty52 0 rfl rfl rfl rfl (fun _ => rfl) rfl) rfl ?_
                  refine K_gyes rfl rfl ?_
                  refine KV (R_index sl52 ty4 rfl rfl ⟨by decide, by decide⟩) rfl ?_
                  refine K_gyes rfl rfl ?_
                  refine KV (R_loadH ty4 rfl (ha2.mono (hw1.trans (hw2.trans (hw3.trans hw4)))) rfl (fun _ => rfl) rfl) rfl ?_
                  refine K_gyes rfl rfl ?_
                  refine KV (R_not rfl) rfl ?_
                  refine KV (R_pickT rfl rfl) rfl ?_
                  refine KV (R_assign rfl) rfl ?_
                  refine K_nil ?_
                  refine Q_then ?_
                  refine K_ret ?_
                  refine results_gen (rs := [.tmp 0]) (vs := [_]) rfl ⟨rfl, trivial⟩ ?_
                  rfl
                ·
                  intro h68
                  exact absurd h68 (by decide)
              ·
                intro h62
                exact absurd (by decide) h62
            ·
              intro h56
              exact absurd (by decide) h56
          ·
            intro h49
            exact absurd (by decide) h49
        ·
          intro h42
          exact absurd (by decide) h42
      ·
        intro h35
        exact absurd (by decide) h35
    ·
      intro h30
      exact absurd (rfl) h30
  ·
    intro h26
    exact absurd (rfl) h26
end Go.Proofs.X

namespace Go.Proofs.X
open Go Pal Go.Proofs
attribute [local irreducible] Pal.KO Pal.KC Pal.KQ Pal.KD
end Go.Proofs.X

namespace Go.Proofs.X
open Go Pal Go.Proofs
attribute [local irreducible] Pal.KO Pal.KC Pal.KQ Pal.KD
theorem c36 : callable Tryz.prog F36 = true := by kernel_rfl
theorem rcheck31_spec (xs : List Int) (v : Value) (H : View) (hv : SI H v xs) (hl : xs.length ≤ 1099511627776) : Sat Tryz.prog F36 #[v] H (fun r _ => r = .int .i64 (ranksErr xs)) := by
  obtain ⟨a, cp, rfl⟩ := hv.shape
  refine enterO (n := 40) (args := [.slice a xs.length cp]) Tryz.func13 rfl rfl rfl fun w0 => ?_
  refine K_seq ?_
  refine K_region ?_
  refine KV (R_assign rfl) rfl ?_
  refine K_nil ?_
  refine Q_then ?_
  refine K_seq ?_
  refine K_seq ?_
  refine K_region ?_
  refine KV (R_move rfl) rfl ?_
  refine KV (R_len sl25 rfl) rfl ?_
  refine KV (R_cmp rfl rfl rfl) rfl ?_
  refine KV (R_move rfl) rfl ?_
  refine K_split ?_ ?_
  ·
    intro h8
    refine K_gno rfl rfl rfl rfl ?_
    refine K_gno rfl rfl rfl rfl ?_
    refine K_gno rfl rfl rfl rfl ?_
    refine KV (R_pickT rfl rfl) rfl ?_
    refine K_nil ?_
    refine Q_then ?_
    refine K_ifT rfl ?_
    refine K_seq ?_
    refine K_region ?_
    refine KV (R_assign rfl) rfl ?_
    refine K_nil ?_
    refine Q_then ?_
    refine K_ret ?_
    refine Q_then_ret ?_
    refine results_gen (rs := [.tmp 2]) (vs := [_]) rfl ⟨rfl, trivial⟩ ?_
    simp only [tupV, ranksErr]
    rw [if_pos (.inl (by omega))]
  ·
    intro h8
    refine K_gyes rfl rfl ?_
    refine KV (R_move rfl) rfl ?_
    refine K_gyes rfl rfl ?_
    refine KV (R_len sl25 rfl) rfl ?_
    refine K_gyes rfl rfl ?_
    refine KV (R_cmp rfl rfl rfl) rfl ?_
    refine KV (R_pickF rfl rfl) rfl ?_
    refine K_nil ?_
    refine Q_then ?_
    refine K_if rfl (fun h12 => ?_) (fun h12 => ?_)
    ·
      refine K_seq ?_
      refine K_region ?_
      refine KV (R_assign rfl) rfl ?_
      refine K_nil ?_
      refine Q_then ?_
      refine K_ret ?_
      refine Q_then_ret ?_
      refine results_gen (rs := [.tmp 2]) (vs := [_]) rfl ⟨rfl, trivial⟩ ?_
      simp only [tupV, ranksErr]
      rw [if_pos (.inr (by omega))]
    ·
      refine K_skip ?_
      refine Q_then ?_
      refine K_seq ?_
      refine K_region ?_
      refine KV (R_assign rfl) rfl ?_
      refine K_nil ?_
      refine Q_then ?_
      refine K_seq ?_
      refine K_seq ?_
      refine K_region ?_
      refine KV (R_assign rfl) rfl ?_
      refine K_nil ?_
      refine Q_then ?_
      refine K_block ?_
      refine K_loopD (G := Nat) [2, 3, 4, 13, 14, 15, 16, 17, 18, 19, 20, 21, 22, 23, 24, 25, 26, 27, 28, 29, 30, 31, 32, 33, 34, 35, 36, 37, 38] (fun g => [(4, .int .i64 (g : Int)), (3, .bool ((xs.take g).all fun x => decide (0 < x)))]) (fun hl g => hl) (fun g => H) (fun g => (g ≤ xs.length) ∧ (∀ j (h : j < xs.length), j < g → ¬ (xs[j] < 0 ∨ 2 < xs[j]))) (fun g => xs.length - g) 0 ⟨Nat.zero_le _, fun j _ h => by simp at h⟩ ⟨rfl, rfl, trivial⟩ (by simp only [args0, Nat.reduceAdd, del, memN, beqN, Nat.reduceBEq, cond_true, cond_false]; rfl) rfl rfl ?_
      rintro k ⟨hk, hno⟩
      try dsimp only at hk
      try dsimp only at hno
      dsimp only [List.set, List.cons_append, List.nil_append]
      refine K_seq ?_
      refine K_seq ?_
      refine K_region ?_
      refine KV (R_move rfl) rfl ?_
      refine KV (R_move rfl) rfl ?_
      refine KV (R_len sl25 rfl) rfl ?_
      refine KV (R_cmp rfl rfl rfl) rfl ?_
      refine K_nil ?_
      refine Q_then ?_
      refine K_if rfl (fun h16 => ?_) (fun h16 => ?_)
      ·
        have hk' : k < xs.length := by omega
        obtain ⟨tb, to_, rfl, hta⟩ := hv.get hk'
        refine K_skip ?_
        refine Q_then ?_
        refine K_seq ?_
        refine K_block ?_
        refine K_seq ?_
        refine K_seq ?_
        refine K_region ?_
        refine KV (R_move rfl) rfl ?_
        refine KV (R_move rfl) rfl ?_
        refine KV (R_indexN sl25 ty3 rfl rfl (by omega)) rfl ?_
        refine KV (R_loadH ty3 rfl (hta) rfl (fun _ => rfl) rfl) rfl ?_
        refine KV (R_cmp rfl rfl rfl) rfl ?_
        refine KV (R_move rfl) rfl ?_
        refine K_split ?_ ?_
        ·
          intro h24
          refine K_gno rfl rfl rfl rfl ?_
          refine K_gno rfl rfl rfl rfl ?_
          refine K_gno rfl rfl rfl rfl ?_
          refine K_gno rfl rfl rfl rfl ?_
          refine K_gno rfl rfl rfl rfl ?_
          refine KV (R_pickT rfl rfl) rfl ?_
          refine K_nil ?_
          refine Q_then ?_
          refine K_ifT rfl ?_
          refine K_seq ?_
          refine K_region ?_
          refine KV (R_assign rfl) rfl ?_
          refine K_nil ?_
          refine Q_then ?_
          refine K_ret ?_
          refine Q_then_ret ?_
          refine Q_block_ret ?_
          refine Q_then_ret ?_
          refine Q_then_ret ?_
          refine Q_block_ret ?_
          refine Q_then_ret ?_
          refine results_gen (rs := [.tmp 2]) (vs := [_]) rfl ⟨rfl, trivial⟩ ?_
          have hany : (xs.any fun x => decide (x < 0 ∨ 2 < x)) = true := List.any_eq_true.2 ⟨_, List.getElem_mem hk', by simp; omega⟩
          simp only [tupV, ranksErr]
          rw [if_neg (by omega), if_pos hany]
        ·
          intro h24
          refine K_gyes rfl rfl ?_
          refine KV (R_move rfl) rfl ?_
          refine K_gyes rfl rfl ?_
          refine KV (R_move rfl) rfl ?_
          refine K_gyes rfl rfl ?_
          refine KV (R_indexN sl25 ty3 rfl rfl (by omega)) rfl ?_
          refine K_gyes rfl rfl ?_
          refine KV (R_loadH ty3 rfl (hta) rfl (fun _ => rfl) rfl) rfl ?_
          refine K_gyes rfl rfl ?_
          refine KV (R_cmp rfl rfl rfl) rfl ?_
          refine KV (R_pickF rfl rfl) rfl ?_
          refine K_nil ?_
          refine Q_then ?_
          refine K_if rfl (fun h30 => ?_) (fun h30 => ?_)
          ·
            refine K_seq ?_
            refine K_region ?_
            refine KV (R_assign rfl) rfl ?_
            refine K_nil ?_
            refine Q_then ?_
            refine K_ret ?_
            refine Q_then_ret ?_
            refine Q_block_ret ?_
            refine Q_then_ret ?_
            refine Q_then_ret ?_
            refine Q_block_ret ?_
            refine Q_then_ret ?_
            refine results_gen (rs := [.tmp 2]) (vs := [_]) rfl ⟨rfl, trivial⟩ ?_
            have hany : (xs.any fun x => decide (x < 0 ∨ 2 < x)) = true := List.any_eq_true.2 ⟨_, List.getElem_mem hk', by simp; omega⟩
            simp only [tupV, ranksErr]
            rw [if_neg (by omega), if_pos hany]
          ·
            have hno2 : ∀ j (h : j < xs.length), j < k + 1 → ¬ (xs[j] < 0 ∨ 2 < xs[j]) := by
              intro j h hj
              by_cases e : j = k
              · subst e; omega
              · exact hno j h (by omega)
            refine K_skip ?_
            refine Q_then ?_
            refine K_region ?_
            refine KV (R_move rfl) rfl ?_
            refine KV (R_move rfl) rfl ?_
            refine K_splitB ?_ ?_
            ·
              intro h32
              refine K_gyes rfl rfl ?_
              refine KV (R_move rfl) rfl ?_
              refine K_gyes rfl rfl ?_
              refine KV (R_move rfl) rfl ?_
              refine K_gyes rfl rfl ?_
              refine KV (R_indexN sl25 ty3 rfl rfl (by omega)) rfl ?_
              refine K_gyes rfl rfl ?_
              refine KV (R_loadH ty3 rfl (hta) rfl (fun _ => rfl) rfl) rfl ?_
              refine K_gyes rfl rfl ?_
              refine KV (R_cmp rfl rfl rfl) rfl ?_
              refine KV (R_pickT rfl rfl) rfl ?_
              refine KV (R_assign rfl) rfl ?_
              refine K_nil ?_
              refine Q_block ?_
              refine Q_then ?_
              refine K_region ?_
              refine KV (R_move rfl) rfl ?_
              refine KV (R_add rfl rfl (by omega)) rfl ?_
              refine KV (R_assign rfl) rfl ?_
              refine K_nil ?_
              refine Q_nextD (k + 1) ⟨hk', hno2⟩ (by (try dsimp only); omega) ⟨rfl, congrArg (fun z => some (Value.bool z)) (by rw [all_succ hk', h32]; rfl), trivial⟩ rfl rfl rfl
            ·
              intro h32
              refine K_gno rfl rfl rfl rfl ?_
              refine K_gno rfl rfl rfl rfl ?_
              refine K_gno rfl rfl rfl rfl ?_
              refine K_gno rfl rfl rfl rfl ?_
              refine K_gno rfl rfl rfl rfl ?_
              refine KV (R_pickF rfl rfl) rfl ?_
              refine KV (R_assign rfl) rfl ?_
              refine K_nil ?_
              refine Q_block ?_
              refine Q_then ?_
              refine K_region ?_
              refine KV (R_move rfl) rfl ?_
              refine KV (R_add rfl rfl (by omega)) rfl ?_
              refine KV (R_assign rfl) rfl ?_
              refine K_nil ?_
              refine Q_nextD (k + 1) ⟨hk', hno2⟩ (by (try dsimp only); omega) ⟨rfl, congrArg (fun z => some (Value.bool z)) (by rw [all_succ hk', h32]; rfl), trivial⟩ rfl rfl rfl
      ·
        have hk' : k = xs.length := by omega
        subst hk'
        rw [List.take_length]
        have hany : (xs.any fun x => decide (x < 0 ∨ 2 < x)) = false := by
          rw [List.any_eq_false]
          intro x hx
          obtain ⟨j, hj, rfl⟩ := List.getElem_of_mem hx
          simpa using hno j hj hj
        refine K_exit ?_
        refine Q_then_exit ?_
        refine Q_then_exit ?_
        refine Q_block_exit ?_
        refine Q_then ?_
        refine K_seq ?_
        refine K_seq ?_
        refine K_region ?_
        refine KV (R_move rfl) rfl ?_
        refine K_nil ?_
        refine Q_then ?_
        refine K_ifB rfl (fun h39 => ?_) (fun h39 => ?_)
        ·
          refine K_seq ?_
          refine K_region ?_
          refine KV (R_assign rfl) rfl ?_
          refine K_nil ?_
          refine Q_then ?_
          refine K_ret ?_
          refine Q_then_ret ?_
          refine results_gen (rs := [.tmp 2]) (vs := [_]) rfl ⟨rfl, trivial⟩ ?_
          have h0 : ¬ (0 : Int) ∈ xs := by
            intro hm
            have := List.all_eq_true.1 h39 0 hm
            simp at this
          simp only [tupV, ranksErr]
          rw [if_neg (by omega), if_neg (by rw [hany]; simp), if_pos h0]
        ·
          refine K_skip ?_
          refine Q_then ?_
          refine K_seq ?_
          refine K_region ?_
          refine KV (R_assign rfl) rfl ?_
          refine K_nil ?_
          refine Q_then ?_
          refine K_ret ?_
          refine results_gen (rs := [.tmp 2]) (vs := [_]) rfl ⟨rfl, trivial⟩ ?_
          have h0 : (0 : Int) ∈ xs := by
            obtain ⟨x, hx, hx2⟩ := List.all_eq_false.1 h39
            obtain ⟨j, hj, e⟩ := List.getElem_of_mem hx
            have := hno j hj hj
            have h3 : ¬ 0 < x := by simpa using hx2
            have : x = 0 := by rw [e] at this; omega
            exact this ▸ hx
          simp only [tupV, ranksErr]
          rw [if_neg (by omega), if_neg (by rw [hany]; simp), if_neg (by simpa using h0)]

end Go.Proofs.X

namespace Go.Proofs.X
open Go Pal Go.Proofs
attribute [local irreducible] Pal.KO Pal.KC Pal.KQ Pal.KD
theorem fd54_0 : fldOk Tryz.prog T54 0 0 = true := by kernel_rfl
end Go.Proofs.X

namespace Go.Proofs.X
open Go Pal Go.Proofs
attribute [local irreducible] Pal.KO Pal.KC Pal.KQ Pal.KD

end Go.Proofs.X

namespace Go.Proofs.X
open Go Pal Go.Proofs
attribute [local irreducible] Pal.KO Pal.KC Pal.KQ Pal.KD
theorem fd63_0 : fldOk Tryz.prog T63 0 0 = true := by kernel_rfl
theorem fd63_1 : fldOk Tryz.prog T63 1 1 = true := by kernel_rfl
theorem fd63_2 : fldOk Tryz.prog T63 2 2 = true := by kernel_rfl
theorem c85 : callable Tryz.prog F85 = true := by kernel_rfl
theorem c87 : callable Tryz.prog F87 = true := by kernel_rfl
theorem c88 : callable Tryz.prog F88 = true := by kernel_rfl
theorem small_spec (d : Dt) (v1 v2 v3 : Value) (H : View) (hd : RepDt H d v1 v2 v3) (hb : d.ranks.length ≤ 1048576 ∧ d.acc.length ≤ 1048576 ∧ d.to.length ≤ 1048576 ∧ ∀ x ∈ d.to, x.length ≤ 1048576) : Sat Tryz.prog F26 #[.agg #[v1, v2, v3]] H (fun r _ => ∃ b, r = .bool b ∧ (b = true → d.ranks.length ≤ 8 ∧ d.acc.length ≤ 5 ∧ d.to.length ≤ 8 ∧ ∀ x ∈ d.to, x.length ≤ 40)) := by
  obtain ⟨hb1, hb2, hb3, hb4⟩ := hb
  obtain ⟨ua1, uc1x, rfl⟩ := hd.r.shape
  obtain ⟨ua2, uc2x, rfl⟩ := hd.a.shape
  obtain ⟨ua3, uc3x, rfl⟩ := hd.t.shape
  refine enterO (n := 34) (args := [.agg #[.slice ua1 d.ranks.length uc1x, .slice ua2 d.acc.length uc2x, .slice ua3 d.to.length uc3x]]) Tryz.func7 rfl rfl rfl fun w0 => ?_
  refine K_seq ?_
  refine K_region ?_
  refine KA (A_box rfl) rfl fun b1 => ?_
  refine KV (R_assign rfl) rfl ?_
  refine K_nil ?_
  refine Q_then ?_
  refine K_seq ?_
  refine K_seq ?_
  refine K_region ?_
  refine KV (R_fieldAddr 0 fd63_0 rfl) rfl ?_
  refine KV (R_loadO ty25 0 rfl rfl rfl rfl (fun _ => rfl) rfl) rfl ?_
  refine KV (R_len sl25 rfl) rfl ?_
  refine KV (R_cmp rfl rfl rfl) rfl ?_
  refine KV (R_move rfl) rfl ?_
  refine K_split ?_ ?_
  ·
    intro h8
    refine K_gno rfl rfl rfl rfl ?_
    refine K_gno rfl rfl rfl rfl ?_
    refine K_gno rfl rfl rfl rfl ?_
    refine K_gno rfl rfl rfl rfl ?_
    refine KV (R_pickT rfl rfl) rfl ?_
    refine KV (R_move rfl) rfl ?_
    refine K_gno rfl rfl rfl rfl ?_
    refine K_gno rfl rfl rfl rfl ?_
    refine K_gno rfl rfl rfl rfl ?_
    refine K_gno rfl rfl rfl rfl ?_
    refine KV (R_pickT rfl rfl) rfl ?_
    refine K_nil ?_
    refine Q_then ?_
    refine K_ifT rfl ?_
    refine K_seq ?_
    refine K_region ?_
    refine KV (R_assign rfl) rfl ?_
    refine K_nil ?_
    refine Q_then ?_
    refine K_ret ?_
    refine Q_then_ret ?_
    refine results_gen (rs := [.tmp 2]) (vs := [_]) rfl ⟨rfl, trivial⟩ ?_
    first | exact ⟨false, rfl, fun h => by cases h⟩ | (refine ⟨true, rfl, fun _ => ⟨by omega, by omega, by omega, fun x hx => ?_⟩⟩; obtain ⟨j, hj, rfl⟩ := List.getElem_of_mem hx; exact hall j hj (by omega))
  ·
    intro h8
    refine K_gyes rfl rfl ?_
    refine KV (R_fieldAddr 1 fd63_1 rfl) rfl ?_
    refine K_gyes rfl rfl ?_
    refine KV (R_loadO ty52 0 rfl rfl rfl rfl (fun _ => rfl) rfl) rfl ?_
    refine K_gyes rfl rfl ?_
    refine KV (R_len sl52 rfl) rfl ?_
    refine K_gyes rfl rfl ?_
    refine KV (R_cmp rfl rfl rfl) rfl ?_
    refine KV (R_pickF rfl rfl) rfl ?_
    refine KV (R_move rfl) rfl ?_
    refine K_split ?_ ?_
    ·
      intro h14
      refine K_gno rfl rfl rfl rfl ?_
      refine K_gno rfl rfl rfl rfl ?_
      refine K_gno rfl rfl rfl rfl ?_
      refine K_gno rfl rfl rfl rfl ?_
      refine KV (R_pickT rfl rfl) rfl ?_
      refine K_nil ?_
      refine Q_then ?_
      refine K_ifT rfl ?_
      refine K_seq ?_
      refine K_region ?_
      refine KV (R_assign rfl) rfl ?_
      refine K_nil ?_
      refine Q_then ?_
      refine K_ret ?_
      refine Q_then_ret ?_
      refine results_gen (rs := [.tmp 2]) (vs := [_]) rfl ⟨rfl, trivial⟩ ?_
      first | exact ⟨false, rfl, fun h => by cases h⟩ | (refine ⟨true, rfl, fun _ => ⟨by omega, by omega, by omega, fun x hx => ?_⟩⟩; obtain ⟨j, hj, rfl⟩ := List.getElem_of_mem hx; exact hall j hj (by omega))
    ·
      intro h14
      refine K_gyes rfl rfl ?_
      refine KV (R_fieldAddr 2 fd63_2 rfl) rfl ?_
      refine K_gyes rfl rfl ?_
      refine KV (R_loadO ty44 0 rfl rfl rfl rfl (fun _ => rfl) rfl) rfl ?_
      refine K_gyes rfl rfl ?_
      refine KV (R_len sl44 rfl) rfl ?_
      refine K_gyes rfl rfl ?_
      refine KV (R_cmp rfl rfl rfl) rfl ?_
      refine KV (R_pickF rfl rfl) rfl ?_
      refine K_nil ?_
      refine Q_then ?_
      refine K_if rfl (fun h19 => ?_) (fun h19 => ?_)
      ·
        refine K_seq ?_
        refine K_region ?_
        refine KV (R_assign rfl) rfl ?_
        refine K_nil ?_
        refine Q_then ?_
        refine K_ret ?_
        refine Q_then_ret ?_
        refine results_gen (rs := [.tmp 2]) (vs := [_]) rfl ⟨rfl, trivial⟩ ?_
        first | exact ⟨false, rfl, fun h => by cases h⟩ | (refine ⟨true, rfl, fun _ => ⟨by omega, by omega, by omega, fun x hx => ?_⟩⟩; obtain ⟨j, hj, rfl⟩ := List.getElem_of_mem hx; exact hall j hj (by omega))
      ·
        refine K_skip ?_
        refine Q_then ?_
        refine K_seq ?_
        refine K_seq ?_
        refine K_region ?_
        refine KV (R_assign rfl) rfl ?_
        refine K_nil ?_
        refine Q_then ?_
        refine K_block ?_
        refine K_loopD (G := Nat) [2, 3, 20, 21, 22, 23, 24, 25, 26, 27, 28, 29, 30, 31, 32, 33] (fun g => [(3, .int .i64 (g : Int))]) (fun hl g => hl) (fun g => H) (fun g => (g ≤ d.to.length) ∧ (∀ j (h : j < d.to.length), j < g → d.to[j].length ≤ 40)) (fun g => d.to.length - g) 0 ⟨Nat.zero_le _, fun j _ h => by simp at h⟩ ⟨rfl, trivial⟩ (by simp only [args0, Nat.reduceAdd, del, memN, beqN, Nat.reduceBEq, cond_true, cond_false]; rfl) rfl rfl ?_
        rintro k ⟨hk, hall⟩
        try dsimp only at hk
        try dsimp only at hall
        dsimp only [List.set, List.cons_append, List.nil_append]
        refine K_seq ?_
        refine K_seq ?_
        refine K_region ?_
        refine KV (R_move rfl) rfl ?_
        refine KV (R_fieldAddr 2 fd63_2 rfl) rfl ?_
        refine KV (R_loadO ty44 0 rfl rfl rfl rfl (fun _ => rfl) rfl) rfl ?_
        refine KV (R_len sl44 rfl) rfl ?_
        refine KV (R_cmp rfl rfl rfl) rfl ?_
        refine K_nil ?_
        refine Q_then ?_
        refine K_if rfl (fun h24 => ?_) (fun h24 => ?_)
        ·
          have hk' : k < d.to.length := by omega
          obtain ⟨tb, to_, ea, ecp, hte, hta, hes⟩ := hd.t.get hk'
          cases hte
          refine K_skip ?_
          refine Q_then ?_
          refine K_seq ?_
          refine K_block ?_
          refine K_seq ?_
          refine K_region ?_
          refine KV (R_fieldAddr 2 fd63_2 rfl) rfl ?_
          refine KV (R_loadO ty44 0 rfl rfl rfl rfl (fun _ => rfl) rfl) rfl ?_
          refine KV (R_move rfl) rfl ?_
          refine KV (R_indexN sl44 ty25 rfl rfl (by omega)) rfl ?_
          refine KV (R_loadH ty25 rfl (hta) rfl (fun _ => rfl) rfl) rfl ?_
          refine KV (R_len sl25 rfl) rfl ?_
          refine KV (R_cmp rfl rfl rfl) rfl ?_
          refine K_nil ?_
          refine Q_then ?_
          refine K_if rfl (fun h33 => ?_) (fun h33 => ?_)
          ·
            refine K_seq ?_
            refine K_region ?_
            refine KV (R_assign rfl) rfl ?_
            refine K_nil ?_
            refine Q_then ?_
            refine K_ret ?_
            refine Q_block_ret ?_
            refine Q_then_ret ?_
            refine Q_then_ret ?_
            refine Q_block_ret ?_
            refine Q_then_ret ?_
            refine results_gen (rs := [.tmp 2]) (vs := [_]) rfl ⟨rfl, trivial⟩ ?_
            first | exact ⟨false, rfl, fun h => by cases h⟩ | (refine ⟨true, rfl, fun _ => ⟨by omega, by omega, by omega, fun x hx => ?_⟩⟩; obtain ⟨j, hj, rfl⟩ := List.getElem_of_mem hx; exact hall j hj (by omega))
          ·
            have hall2 : ∀ j (h : j < d.to.length), j < k + 1 → d.to[j].length ≤ 40 := by
              intro j h hj
              by_cases e : j = k
              · subst e; omega
              · exact hall j h (by omega)
            refine K_skip ?_
            refine Q_block ?_
            refine Q_then ?_
            refine K_region ?_
            refine KV (R_move rfl) rfl ?_
            refine KV (R_add rfl rfl (by omega)) rfl ?_
            refine KV (R_assign rfl) rfl ?_
            refine K_nil ?_
            refine Q_nextD (k + 1) ⟨hk', hall2⟩ (by (try dsimp only); omega) ⟨rfl, trivial⟩ rfl rfl rfl
        ·
          have hk' : k = d.to.length := by omega
          refine K_exit ?_
          refine Q_then_exit ?_
          refine Q_then_exit ?_
          refine Q_block_exit ?_
          refine Q_then ?_
          refine K_seq ?_
          refine K_region ?_
          refine KV (R_assign rfl) rfl ?_
          refine K_nil ?_
          refine Q_then ?_
          refine K_ret ?_
          refine results_gen (rs := [.tmp 2]) (vs := [_]) rfl ⟨rfl, trivial⟩ ?_
          first | exact ⟨false, rfl, fun h => by cases h⟩ | (refine ⟨true, rfl, fun _ => ⟨by omega, by omega, by omega, fun x hx => ?_⟩⟩; obtain ⟨j, hj, rfl⟩ := List.getElem_of_mem hx; exact hall j hj (by omega))

theorem l33from_spec (d : Dt) (v1 v2 v3 : Value) (H : View) (hd : RepDt H d v1 v2 v3) : Sat Tryz.prog F28 #[.agg #[v1, v2, v3]] H (fun r _ => r = .agg #[v1, v2, v3]) := by
  obtain ⟨ua1, uc1x, rfl⟩ := hd.r.shape
  obtain ⟨ua2, uc2x, rfl⟩ := hd.a.shape
  obtain ⟨ua3, uc3x, rfl⟩ := hd.t.shape
  refine enterO (n := 10) (args := [.agg #[.slice ua1 d.ranks.length uc1x, .slice ua2 d.acc.length uc2x, .slice ua3 d.to.length uc3x]]) Tryz.func10 rfl rfl rfl fun w0 => ?_
  refine K_seq ?_
  refine K_region ?_
  refine KA (A_box rfl) rfl fun b1 => ?_
  refine KA (A_alloc z54) rfl fun b2 => ?_
  refine K_nil ?_
  refine Q_then ?_
  refine K_seq ?_
  refine K_region ?_
  refine KV (R_fieldAddr 0 fd63_0 rfl) rfl ?_
  refine KV (R_loadO ty25 1 rfl rfl rfl rfl (fun _ => rfl) rfl) rfl ?_
  refine KV (R_fieldAddr 1 fd63_1 rfl) rfl ?_
  refine KV (R_loadO ty52 1 rfl rfl rfl rfl (fun _ => rfl) rfl) rfl ?_
  refine KV (R_fieldAddr 2 fd63_2 rfl) rfl ?_
  refine KV (R_loadO ty44 1 rfl rfl rfl rfl (fun _ => rfl) rfl) rfl ?_
  refine KV (R_build z54 pl54 rfl rfl) rfl ?_
  refine K_store ty54 0 rfl rfl rfl rfl rfl rfl ?_
  refine K_nil ?_
  refine Q_then ?_
  refine K_ret ?_
  refine results_gen (rs := [.cell 2 41]) (vs := [_]) rfl ⟨⟨_, _, _, _, _, _, 0, rfl, rfl, ty54, (fun e => by cases e), rfl, rfl⟩, trivial⟩ ?_
  rfl

theorem places_spec (d : Dt) (s : Nat) (v1 v2 v3 : Value) (H : View) (hd : RepDt H d v1 v2 v3) (hn : d.acc.length ≤ 512) (hs : s < d.ranks.length) (hr : 0 ≤ d.ranks[s] ∧ d.ranks[s] ≤ 2) : Sat Tryz.prog F66 #[.agg #[v1, v2, v3], .int .i64 (s : Int)] H (fun r _ => r = .int .i64 ((d.acc.length ^ d.ranks[s].toNat : Nat) : Int)) := by
  obtain ⟨ua1, uc1x, rfl⟩ := hd.r.shape
  obtain ⟨ua2, uc2x, rfl⟩ := hd.a.shape
  obtain ⟨ua3, uc3x, rfl⟩ := hd.t.shape
  obtain ⟨tb, to_, hte, hta⟩ := hd.r.get hs
  cases hte
  have hmul : d.acc.length * d.acc.length ≤ 512 * 512 := Nat.mul_le_mul hn hn
  have hmul2 : ((d.acc.length * d.acc.length : Nat) : Int) = (d.acc.length : Int) * (d.acc.length : Int) := Int.natCast_mul _ _
  refine enterO (n := 22) (args := [.agg #[.slice (some ⟨tb, to_, none⟩) d.ranks.length uc1x, .slice ua2 d.acc.length uc2x, .slice ua3 d.to.length uc3x], .int .i64 (s : Int)]) Tryz.func39 rfl rfl rfl fun w0 => ?_
  refine K_seq ?_
  refine K_region ?_
  refine KA (A_box rfl) rfl fun b2 => ?_
  refine KV (R_assign rfl) rfl ?_
  refine K_nil ?_
  refine Q_then ?_
  refine K_seq ?_
  refine K_region ?_
  refine KV (R_fieldAddr 1 fd63_1 rfl) rfl ?_
  refine KV (R_loadO ty52 0 rfl rfl rfl rfl (fun _ => rfl) rfl) rfl ?_
  refine KV (R_len sl52 rfl) rfl ?_
  refine KV (R_assign rfl) rfl ?_
  refine K_nil ?_
  refine Q_then ?_
  refine K_seq ?_
  refine K_seq ?_
  refine K_region ?_
  refine KV (R_fieldAddr 0 fd63_0 rfl) rfl ?_
  refine KV (R_loadO ty25 0 rfl rfl rfl rfl (fun _ => rfl) rfl) rfl ?_
  refine KV (R_move rfl) rfl ?_
  refine KV (R_indexN sl25 ty3 rfl rfl (by omega)) rfl ?_
  refine KV (R_loadH ty3 rfl (hta) rfl (fun _ => rfl) rfl) rfl ?_
  refine K_nil ?_
  refine Q_then ?_
  refine K_block ?_
  refine K_seq ?_
  refine K_region ?_
  refine KV (R_cmp rfl rfl rfl) rfl ?_
  refine KV (R_assign rfl) rfl ?_
  refine K_nil ?_
  refine Q_then ?_
  refine K_if rfl (fun h14 => ?_) (fun h14 => ?_)
  ·
    refine K_seq ?_
    refine K_region ?_
    refine KV (R_assign rfl) rfl ?_
    refine K_nil ?_
    refine Q_then ?_
    refine K_ret ?_
    refine Q_block_ret ?_
    refine Q_then_ret ?_
    refine results_gen (rs := [.tmp 4]) (vs := [_]) rfl ⟨rfl, trivial⟩ ?_
    have e : d.ranks[s].toNat = 0 := by omega
    rw [e]
    rfl
  ·
    refine K_seq ?_
    refine K_region ?_
    refine KV (R_cmp rfl rfl rfl) rfl ?_
    refine KV (R_assign rfl) rfl ?_
    refine K_nil ?_
    refine Q_then ?_
    refine K_if rfl (fun h16 => ?_) (fun h16 => ?_)
    ·
      refine K_seq ?_
      refine K_region ?_
      refine KV (R_move rfl) rfl ?_
      refine KV (R_assign rfl) rfl ?_
      refine K_nil ?_
      refine Q_then ?_
      refine K_ret ?_
      refine Q_block_ret ?_
      refine Q_then_ret ?_
      refine results_gen (rs := [.tmp 4]) (vs := [_]) rfl ⟨rfl, trivial⟩ ?_
      have e : d.ranks[s].toNat = 1 := by omega
      rw [e, Nat.pow_one]
      rfl
    ·
      refine K_skip ?_
      refine Q_block ?_
      refine Q_then ?_
      refine K_seq ?_
      refine K_region ?_
      refine KV (R_move rfl) rfl ?_
      refine KV (R_move rfl) rfl ?_
      refine KV (R_mul rfl rfl (by omega)) rfl ?_
      refine KV (R_assign rfl) rfl ?_
      refine K_nil ?_
      refine Q_then ?_
      refine K_ret ?_
      refine results_gen (rs := [.tmp 4]) (vs := [_]) rfl ⟨rfl, trivial⟩ ?_
      have e : d.ranks[s].toNat = 2 := by omega
      rw [e, Nat.pow_two, hmul2]
      rfl

theorem wide_spec (m n : Nat) (hm : m ≤ 2) (hn : n ≤ 512) (H : View) : Sat Tryz.prog F85 #[.int .i64 (m : Int), .int .i64 (n : Int)] H (fun r _ => r = .int .i64 ((n ^ m : Nat) : Int)) := by
  refine enterO (n := 14) (args := [.int .i64 (m : Int), .int .i64 (n : Int)]) Tryz.func69 rfl rfl rfl fun w0 => ?_
  refine K_seq ?_
  refine K_region ?_
  refine KV (R_assign rfl) rfl ?_
  refine K_nil ?_
  refine Q_then ?_
  refine K_seq ?_
  refine K_region ?_
  refine KV (R_assign rfl) rfl ?_
  refine K_nil ?_
  refine Q_then ?_
  refine K_seq ?_
  refine K_seq ?_
  refine K_region ?_
  refine KV (R_move rfl) rfl ?_
  refine KV (R_move rfl) rfl ?_
  refine K_nil ?_
  refine Q_then ?_
  refine K_block ?_
  refine K_loopD (G := Nat) [5, 7, 8, 9, 10, 11, 12] (fun g => [(7, .int .i64 (g : Int)), (5, .int .i64 ((n ^ g : Nat) : Int))]) (fun hl g => hl) (fun g => H) (fun g => (g ≤ m)) (fun g => m - g) 0 (Nat.zero_le _) ⟨rfl, rfl, trivial⟩ (by simp only [args0, Nat.reduceAdd, del, memN, beqN, Nat.reduceBEq, cond_true, cond_false]; rfl) rfl rfl ?_
  rintro k hk
  try dsimp only at hk
  dsimp only [List.set, List.cons_append, List.nil_append]
  refine K_seq ?_
  refine K_region ?_
  refine KV (R_cmp rfl rfl rfl) rfl ?_
  refine K_nil ?_
  refine Q_then ?_
  refine K_seq ?_
  refine K_if rfl (fun h8 => ?_) (fun h8 => ?_)
  ·
    have hk' : k < m := by omega
    have hp : n ^ k * n ≤ 512 * 512 := by
      refine Nat.mul_le_mul ?_ hn
      rcases Nat.eq_zero_or_pos k with e | e
      · subst e; simp
      · have : k = 1 := by omega
        subst this; simpa using hn
    have hp2 : ((n ^ k * n : Nat) : Int) = ((n ^ k : Nat) : Int) * (n : Int) := Int.natCast_mul _ _
    refine K_skip ?_
    refine Q_then ?_
    refine K_seq ?_
    refine K_block ?_
    refine K_region ?_
    refine KV (R_move rfl) rfl ?_
    refine KV (R_move rfl) rfl ?_
    refine KV (R_mul rfl rfl (by omega)) rfl ?_
    refine KV (R_assign rfl) rfl ?_
    refine K_nil ?_
    refine Q_block ?_
    refine Q_then ?_
    refine K_region ?_
    refine KV (R_add rfl rfl (by omega)) rfl ?_
    refine KV (R_move rfl) rfl ?_
    refine K_nil ?_
    refine Q_nextD (k + 1) hk' (by (try dsimp only); omega) ⟨rfl, congrArg (fun z => some (Value.int .i64 z)) (by rw [Nat.pow_succ]; exact (Int.natCast_mul _ _).symm), trivial⟩ rfl rfl rfl
  ·
    have hk' : k = m := by omega
    subst hk'
    refine K_exit ?_
    refine Q_then_exit ?_
    refine Q_then_exit ?_
    refine Q_block_exit ?_
    refine Q_then ?_
    refine K_seq ?_
    refine K_region ?_
    refine KV (R_move rfl) rfl ?_
    refine KV (R_assign rfl) rfl ?_
    refine K_nil ?_
    refine Q_then ?_
    refine K_ret ?_
    refine results_gen (rs := [.tmp 4]) (vs := [_]) rfl ⟨rfl, trivial⟩ ?_
    rfl

theorem dstate_spec (d : Dt) (q : Int) (v1 v2 v3 : Value) (H : View) (hd : RepDt H d v1 v2 v3) : Sat Tryz.prog F88 #[.agg #[v1, v2, v3], .int .i64 q] H (fun r _ => r = .bool (!badQ d.acc.length q)) := by
  obtain ⟨ua1, uc1x, rfl⟩ := hd.r.shape
  obtain ⟨ua2, uc2x, rfl⟩ := hd.a.shape
  obtain ⟨ua3, uc3x, rfl⟩ := hd.t.shape
  refine enterO (n := 14) (args := [.agg #[.slice ua1 d.ranks.length uc1x, .slice ua2 d.acc.length uc2x, .slice ua3 d.to.length uc3x], .int .i64 q]) Tryz.func71 rfl rfl rfl fun w0 => ?_
  refine K_seq ?_
  refine K_region ?_
  refine KA (A_box rfl) rfl fun b2 => ?_
  refine KV (R_assign rfl) rfl ?_
  refine K_nil ?_
  refine Q_then ?_
  refine K_seq ?_
  refine K_region ?_
  refine KV (R_move rfl) rfl ?_
  refine KV (R_cmp rfl rfl rfl) rfl ?_
  refine KV (R_move rfl) rfl ?_
  refine K_split ?_ ?_
  ·
    intro h7
    refine K_gyes rfl rfl ?_
    refine KV (R_move rfl) rfl ?_
    refine K_gyes rfl rfl ?_
    refine KV (R_fieldAddr 1 fd54_1 rfl) rfl ?_
    refine K_gyes rfl rfl ?_
    refine KV (R_loadO ty52 0 rfl rfl rfl rfl (fun _ => rfl) rfl) rfl ?_
    refine K_gyes rfl rfl ?_
    refine KV (R_len sl52 rfl) rfl ?_
    refine K_gyes rfl rfl ?_
    refine KV (R_cmp rfl rfl rfl) rfl ?_
    refine KV (R_pickT rfl rfl) rfl ?_
    refine KV (R_assign rfl) rfl ?_
    refine K_nil ?_
    refine Q_then ?_
    refine K_ret ?_
    refine results_gen (rs := [.tmp 4]) (vs := [_]) rfl ⟨rfl, trivial⟩ ?_
    simp [tupV, badQ, h7]
  ·
    intro h7
    refine K_gno rfl rfl rfl rfl ?_
    refine K_gno rfl rfl rfl rfl ?_
    refine K_gno rfl rfl rfl rfl ?_
    refine K_gno rfl rfl rfl rfl ?_
    refine K_gno rfl rfl rfl rfl ?_
    refine KV (R_pickF rfl rfl) rfl ?_
    refine KV (R_assign rfl) rfl ?_
    refine K_nil ?_
    refine Q_then ?_
    refine K_ret ?_
    refine results_gen (rs := [.tmp 4]) (vs := [_]) rfl ⟨rfl, trivial⟩ ?_
    simp [tupV, badQ, h7]

theorem dbad_spec (d : Dt) (b : Nat) (q : Int) (v1 v2 v3 : Value) (H : View) (hd : RepDt H d v1 v2 v3) (hb : At H b 0 [v1, v2, v3]) : Sat Tryz.prog F87 #[.int .i64 q, ptr b] H (fun r _ => r = .bool (badQ d.acc.length q)) := by
  refine enterO (n := 8) (args := [.int .i64 q, ptr b]) Tryz.func70 rfl rfl rfl fun w0 => ?_
  refine K_seq ?_
  refine K_region ?_
  refine KV (R_assign rfl) rfl ?_
  refine K_nil ?_
  refine Q_then ?_
  refine K_seq ?_
  refine K_region ?_
  refine KV (R_loadH ty54 rfl (hb) rfl (fun e => by cases e) rfl) rfl ?_
  refine KV (R_move rfl) rfl ?_
  refine K_call c88 rfl rfl (dstate_spec d q v1 v2 v3 H hd) ?_
  rintro _ V' hle rfl
  refine KV (R_not rfl) rfl ?_
  refine KV (R_assign rfl) rfl ?_
  refine K_nil ?_
  refine Q_then ?_
  refine K_ret ?_
  refine results_gen (rs := [.tmp 3]) (vs := [_]) rfl ⟨rfl, trivial⟩ ?_
  simp [tupV]

theorem dcheck_spec (d : Dt) (v1 v2 v3 : Value) (H : View) (hd : RepDt H d v1 v2 v3) (hb : d.ranks.length ≤ 1048576 ∧ d.acc.length ≤ 1048576 ∧ d.to.length ≤ 1048576 ∧ ∀ x ∈ d.to, x.length ≤ 1048576) : Sat Tryz.prog F63 #[.agg #[v1, v2, v3]] H (fun r _ => r = .int .i64 (dtErr d)) := by
  obtain ⟨hb1, hb2, hb3, hb4⟩ := hb
  obtain ⟨ua1, uc1x, rfl⟩ := hd.r.shape
  obtain ⟨ua2, uc2x, rfl⟩ := hd.a.shape
  obtain ⟨ua3, uc3x, rfl⟩ := hd.t.shape
  refine enterO (n := 61) (args := [.agg #[.slice ua1 d.ranks.length uc1x, .slice ua2 d.acc.length uc2x, .slice ua3 d.to.length uc3x]]) Tryz.func32 rfl rfl rfl fun w0 => ?_
  refine K_seq ?_
  refine K_region ?_
  refine KA (A_box rfl) rfl fun b1 => ?_
  refine KV (R_assign rfl) rfl ?_
  refine K_nil ?_
  refine KQ_pubblk (by intro x hx; simp [feet] at hx) fun V0 hle0 hb1_ => ?_
  have hA := At.of hb1_
  have hA0 := hA.one (j := 0) rfl
  have hA1 := hA.one (j := 1) rfl
  have hA2 := hA.one (j := 2) rfl
  refine Q_then ?_
  refine K_seq ?_
  refine K_seq ?_
  refine K_region ?_
  refine KV (R_fieldAddr 0 fd54_0 rfl) rfl ?_
  refine KV (R_loadH ty47 rfl (hA0) rfl (fun _ => rfl) rfl) rfl ?_
  refine K_call c72 rfl rfl (acheck_spec d.ranks _ V0 (hd.r.mono hle0) (by omega)) ?_
  rintro _ V1 hle1 rfl
  refine KV (R_assign rfl) rfl ?_
  refine K_nil ?_
  refine Q_then ?_
  refine K_seq ?_
  refine K_region ?_
  refine KV (R_move rfl) rfl ?_
  refine KV (R_cmp rfl rfl rfl) rfl ?_
  refine K_nil ?_
  refine Q_then ?_
  refine K_if rfl (fun h13 => ?_) (fun h13 => ?_)
  ·
    refine K_seq ?_
    refine K_region ?_
    refine KV (R_move rfl) rfl ?_
    refine KV (R_assign rfl) rfl ?_
    refine K_nil ?_
    refine Q_then ?_
    refine K_ret ?_
    refine Q_then_ret ?_
    refine results_gen (rs := [.tmp 2]) (vs := [_]) rfl ⟨rfl, trivial⟩ ?_
    simp only [tupV, dtErr]
    rw [if_pos h13]
  ·
    have hrks := (ranksErr_ok (Decidable.not_not.1 h13)).2
    refine K_skip ?_
    refine Q_then ?_
    refine K_seq ?_
    refine K_region ?_
    refine KV (R_fieldAddr 1 fd54_1 rfl) rfl ?_
    refine KV (R_loadH ty52 rfl (hA1.mono hle1) rfl (fun _ => rfl) rfl) rfl ?_
    refine KV (R_len sl52 rfl) rfl ?_
    refine KV (R_assign rfl) rfl ?_
    refine K_nil ?_
    refine Q_then ?_
    refine K_seq ?_
    refine K_seq ?_
    refine K_region ?_
    refine KV (R_move rfl) rfl ?_
    refine KV (R_cmp rfl rfl rfl) rfl ?_
    refine KV (R_move rfl) rfl ?_
    refine K_split ?_ ?_
    ·
      intro h20
      refine K_gno rfl rfl rfl rfl ?_
      refine K_gno rfl rfl rfl rfl ?_
      refine KV (R_pickT rfl rfl) rfl ?_
      refine K_nil ?_
      refine Q_then ?_
      refine K_ifT rfl ?_
      refine K_seq ?_
      refine K_region ?_
      refine KV (R_assign rfl) rfl ?_
      refine K_nil ?_
      refine Q_then ?_
      refine K_ret ?_
      refine Q_then_ret ?_
      refine results_gen (rs := [.tmp 2]) (vs := [_]) rfl ⟨rfl, trivial⟩ ?_
      simp only [tupV, dtErr]
      rw [if_neg h13, if_pos (by omega)]
    ·
      intro h20
      refine K_gyes rfl rfl ?_
      refine KV (R_move rfl) rfl ?_
      refine K_gyes rfl rfl ?_
      refine KV (R_cmp rfl rfl rfl) rfl ?_
      refine KV (R_pickF rfl rfl) rfl ?_
      refine K_nil ?_
      refine Q_then ?_
      refine K_if rfl (fun h23 => ?_) (fun h23 => ?_)
      ·
        refine K_seq ?_
        refine K_region ?_
        refine KV (R_assign rfl) rfl ?_
        refine K_nil ?_
        refine Q_then ?_
        refine K_ret ?_
        refine Q_then_ret ?_
        refine results_gen (rs := [.tmp 2]) (vs := [_]) rfl ⟨rfl, trivial⟩ ?_
        simp only [tupV, dtErr]
        rw [if_neg h13, if_pos (by omega)]
      ·
        refine K_skip ?_
        refine Q_then ?_
        refine K_seq ?_
        refine K_seq ?_
        refine K_region ?_
        refine KV (R_fieldAddr 2 fd54_2 rfl) rfl ?_
        refine KV (R_loadH ty44 rfl (hA2.mono hle1) rfl (fun _ => rfl) rfl) rfl ?_
        refine KV (R_len sl44 rfl) rfl ?_
        refine KV (R_fieldAddr 0 fd54_0 rfl) rfl ?_
        refine KV (R_loadH ty47 rfl (hA0.mono hle1) rfl (fun _ => rfl) rfl) rfl ?_
        refine KV (R_len sl47 rfl) rfl ?_
        refine KV (R_cmp rfl rfl rfl) rfl ?_
        refine K_nil ?_
        refine Q_then ?_
        refine K_if rfl (fun h30 => ?_) (fun h30 => ?_)
        ·
          refine K_seq ?_
          refine K_region ?_
          refine KV (R_assign rfl) rfl ?_
          refine K_nil ?_
          refine Q_then ?_
          refine K_ret ?_
          refine Q_then_ret ?_
          refine results_gen (rs := [.tmp 2]) (vs := [_]) rfl ⟨rfl, trivial⟩ ?_
          simp only [tupV, dtErr]
          rw [if_neg h13, if_neg (by omega), if_pos h30]
        ·
          refine K_skip ?_
          refine Q_then ?_
          refine K_seq ?_
          refine K_seq ?_
          refine K_region ?_
          refine KV (R_fieldAddr 2 fd54_2 rfl) rfl ?_
          refine KV (R_loadH ty44 rfl (hA2.mono hle1) rfl (fun _ => rfl) rfl) rfl ?_
          refine KV (R_len sl44 rfl) rfl ?_
          refine KV (R_move rfl) rfl ?_
          refine K_nil ?_
          refine Q_then ?_
          refine K_block ?_
          refine K_loopD (G := Nat × View) [2, 5, 6, 34, 35, 36, 37, 38, 39, 40, 41, 42, 43, 44, 45, 46, 47, 48, 49] (fun g => [(34, .int .i64 (g.1 : Int))]) (fun hl g => hl) (fun g => g.2) (fun g => (g.1 ≤ d.to.length) ∧ (VLe V0 g.2) ∧ (∀ j (h : j < d.to.length), j < g.1 → (d.to.getD j []).length = d.acc.length ^ (d.ranks.getD j 0).toNat)) (fun g => d.to.length - g.1) (0, V1) ⟨Nat.zero_le _, hle1, fun j _ h => by simp at h⟩ ⟨rfl, trivial⟩ (by simp only [args0, Nat.reduceAdd, del, memN, beqN, Nat.reduceBEq, cond_true, cond_false]; rfl) rfl rfl ?_
          rintro ⟨s, V⟩ ⟨hs, hV, hwid⟩
          dsimp only at hs hV hwid
          dsimp only [List.set, List.cons_append, List.nil_append]
          refine K_seq ?_
          refine K_region ?_
          refine KV (R_cmp rfl rfl rfl) rfl ?_
          refine K_nil ?_
          refine Q_then ?_
          refine K_seq ?_
          refine K_if rfl (fun h35 => ?_) (fun h35 => ?_)
          ·
            have hs' : s < d.to.length := by omega
            obtain ⟨tb, to_, ea, ecp, hte, hta, hes⟩ := (hd.mono (hle0.trans hV)).t.get hs'
            cases hte
            have hsm : s < d.ranks.length := by omega
            obtain ⟨rb, ro, hre, hrk⟩ := (hd.mono (hle0.trans hV)).r.get hsm
            cases hre
            have hrr := hrks s hsm
            have hgs : d.to.getD s [] = d.to[s] := by simp [List.getD, hs']
            have hgr : d.ranks.getD s 0 = d.ranks[s] := by simp [List.getD, hsm]
            refine K_skip ?_
            refine Q_then ?_
            refine K_seq ?_
            refine K_block ?_
            refine K_seq ?_
            refine K_region ?_
            refine KV (R_move rfl) rfl ?_
            refine KV (R_indexN sl44 ty25 rfl rfl (by omega)) rfl ?_
            refine KV (R_loadH ty25 rfl (hta) rfl (fun _ => rfl) rfl) rfl ?_
            refine KV (R_assign rfl) rfl ?_
            refine KV (R_assign rfl) rfl ?_
            refine K_nil ?_
            refine Q_then ?_
            refine K_seq ?_
            refine K_region ?_
            refine KV (R_move rfl) rfl ?_
            refine KV (R_len sl25 rfl) rfl ?_
            refine KV (R_fieldAddr 0 fd54_0 rfl) rfl ?_
            refine KV (R_loadH ty47 rfl (hA0.mono hV) rfl (fun _ => rfl) rfl) rfl ?_
            refine KV (R_move rfl) rfl ?_
            refine KV (R_indexN sl47 ty3 rfl rfl (by omega)) rfl ?_
            refine KV (R_loadH ty3 rfl (hrk) rfl (fun _ => rfl) rfl) rfl ?_
            refine KV (R_move rfl) rfl ?_
            rw [show d.ranks[s] = ((d.ranks[s].toNat : Nat) : Int) by omega]
            refine K_call c85 rfl rfl (wide_spec d.ranks[s].toNat d.acc.length (by omega) (by omega) V) ?_
            rintro _ V2 hv2 rfl
            refine KV (R_cmp rfl rfl rfl) rfl ?_
            refine K_nil ?_
            refine Q_then ?_
            refine K_if rfl (fun h48 => ?_) (fun h48 => ?_)
            ·
              have hwb : widthBad d = true := by
                unfold widthBad
                rw [List.any_eq_true]
                refine ⟨s, List.mem_range.2 hs', ?_⟩
                simp only [decide_eq_true_eq, hgs, hgr]
                omega
              refine K_seq ?_
              refine K_region ?_
              refine KV (R_assign rfl) rfl ?_
              refine K_nil ?_
              refine Q_then ?_
              refine K_ret ?_
              refine Q_block_ret ?_
              refine Q_then_ret ?_
              refine Q_then_ret ?_
              refine Q_block_ret ?_
              refine Q_then_ret ?_
              refine results_gen (rs := [.tmp 2]) (vs := [_]) rfl ⟨rfl, trivial⟩ ?_
              simp only [tupV, dtErr]
              rw [if_neg h13, if_neg (by omega), if_neg h30, if_pos hwb]
            ·
              have hwid2 : ∀ j (h : j < d.to.length), j < s + 1 → (d.to.getD j []).length = d.acc.length ^ (d.ranks.getD j 0).toNat := by
                intro j h hj
                by_cases e : j = s
                · subst e; rw [hgs, hgr]; omega
                · exact hwid j h (by omega)
              refine K_skip ?_
              refine Q_block ?_
              refine Q_then ?_
              refine K_region ?_
              refine KV (R_add rfl rfl (by omega)) rfl ?_
              refine KV (R_move rfl) rfl ?_
              refine K_nil ?_
              refine Q_nextD (s + 1, V2) ⟨hs', hV.trans hv2, hwid2⟩ (by (try dsimp only); omega) ⟨rfl, trivial⟩ rfl rfl rfl
          ·
            have hwb : widthBad d = false := by
              unfold widthBad
              rw [List.any_eq_false]
              intro s hs
              have hs2 := List.mem_range.1 hs
              have := hwid s hs2 (by omega)
              simpa using this
            refine K_exit ?_
            refine Q_then_exit ?_
            refine Q_then_exit ?_
            refine Q_block_exit ?_
            refine Q_then ?_
            refine K_seq ?_
            refine K_seq ?_
            refine K_region ?_
            refine KV (R_fieldAddr 2 fd54_2 rfl) rfl ?_
            refine KV (R_loadH ty44 rfl (hA2.mono hV) rfl (fun _ => rfl) rfl) rfl ?_
            refine KV (R_len sl44 rfl) rfl ?_
            refine KV (R_move rfl) rfl ?_
            refine K_nil ?_
            refine Q_then ?_
            refine K_block ?_
            refine K_loopD (G := Nat × View) [2, 8, 53, 54, 55, 56, 57, 58, 59, 60] (fun g => [(53, .int .i64 (g.1 : Int))]) (fun hl g => hl) (fun g => g.2) (fun g => (g.1 ≤ d.to.length) ∧ (VLe V0 g.2) ∧ (∀ j (h : j < d.to.length), j < g.1 → d.to[j].any (badQ d.acc.length) = false)) (fun g => d.to.length - g.1) (0, V) ⟨Nat.zero_le _, hV, fun j _ h => by simp at h⟩ ⟨rfl, trivial⟩ (by simp only [args0, Nat.reduceAdd, del, memN, beqN, Nat.reduceBEq, cond_true, cond_false]; rfl) rfl rfl ?_
            rintro ⟨s, V⟩ ⟨hs, hV, hent⟩
            dsimp only at hs hV hent
            dsimp only [List.set, List.cons_append, List.nil_append]
            refine K_seq ?_
            refine K_region ?_
            refine KV (R_cmp rfl rfl rfl) rfl ?_
            refine K_nil ?_
            refine Q_then ?_
            refine K_seq ?_
            refine K_if rfl (fun h54 => ?_) (fun h54 => ?_)
            ·
              have hs' : s < d.to.length := by omega
              obtain ⟨tb, to_, ea, ecp, hte, hta, hes⟩ := (hd.mono (hle0.trans hV)).t.get hs'
              cases hte
              refine K_skip ?_
              refine Q_then ?_
              refine K_seq ?_
              refine K_block ?_
              refine K_seq ?_
              refine K_region ?_
              refine KV (R_indexN sl44 ty25 rfl rfl (by omega)) rfl ?_
              refine KV (R_loadH ty25 rfl (hta) rfl (fun _ => rfl) rfl) rfl ?_
              refine KV (R_assign rfl) rfl ?_
              refine K_nil ?_
              refine Q_then ?_
              refine K_seq ?_
              refine K_region ?_
              refine KV (R_move rfl) rfl ?_
              refine KV (R_makeFunc rfl rfl) rfl ?_
              refine K_call c86 rfl rfl (sicon_spec F87 [ptr b1] (badQ d.acc.length) d.to[s] _ V hes (Nat.le_trans (hb4 _ (List.getElem_mem hs')) (by decide)) c87 (fun x W _ hW => dbad_spec d b1 x _ _ _ W (hd.mono (hle0.trans (hV.trans hW))) (hA.mono (hV.trans hW)))) ?_
              rintro _ V2 hle2 rfl
              refine K_nil ?_
              refine Q_then ?_
              refine K_ifB rfl (fun h59 => ?_) (fun h59 => ?_)
              ·
                have heb : entryBad d = true := List.any_eq_true.2 ⟨_, List.getElem_mem hs', h59⟩
                refine K_seq ?_
                refine K_region ?_
                refine KV (R_assign rfl) rfl ?_
                refine K_nil ?_
                refine Q_then ?_
                refine K_ret ?_
                refine Q_block_ret ?_
                refine Q_then_ret ?_
                refine Q_then_ret ?_
                refine Q_block_ret ?_
                refine Q_then_ret ?_
                refine results_gen (rs := [.tmp 2]) (vs := [_]) rfl ⟨rfl, trivial⟩ ?_
                simp only [tupV, dtErr]
                rw [if_neg h13, if_neg (by omega), if_neg h30, hwb, heb]
                rfl
              ·
                have hent2 : ∀ j (h : j < d.to.length), j < s + 1 → d.to[j].any (badQ d.acc.length) = false := by
                  intro j h hj
                  by_cases e : j = s
                  · subst e; exact h59
                  · exact hent j h (by omega)
                refine K_skip ?_
                refine Q_block ?_
                refine Q_then ?_
                refine K_region ?_
                refine KV (R_add rfl rfl (by omega)) rfl ?_
                refine KV (R_move rfl) rfl ?_
                refine K_nil ?_
                refine Q_nextD (s + 1, V2) ⟨hs', hV.trans hle2, hent2⟩ (by (try dsimp only); omega) ⟨rfl, trivial⟩ rfl rfl rfl
            ·
              have heb : entryBad d = false := by
                unfold entryBad
                rw [List.any_eq_false]
                intro x hx
                obtain ⟨j, hj, rfl⟩ := List.getElem_of_mem hx
                simp [hent j hj (by omega)]
              refine K_exit ?_
              refine Q_then_exit ?_
              refine Q_then_exit ?_
              refine Q_block_exit ?_
              refine Q_then ?_
              refine K_seq ?_
              refine K_region ?_
              refine KV (R_assign rfl) rfl ?_
              refine K_nil ?_
              refine Q_then ?_
              refine K_ret ?_
              refine results_gen (rs := [.tmp 2]) (vs := [_]) rfl ⟨rfl, trivial⟩ ?_
              simp only [tupV, dtErr]
              rw [if_neg h13, if_neg (by omega), if_neg h30, hwb, heb]
              rfl
end Go.Proofs.X

namespace Go.Proofs.X
open Go Pal Go.Proofs
attribute [local irreducible] Pal.KO Pal.KC Pal.KQ Pal.KD
theorem ty63 : Ty Tryz.prog T63 true 3 := .of (by kernel_rfl)
theorem c66 : callable Tryz.prog F66 = true := by kernel_rfl
theorem c75 : callable Tryz.prog F75 = true := by kernel_rfl
theorem c114 : callable Tryz.prog F114 = true := by kernel_rfl
theorem c115 : callable Tryz.prog F115 = true := by kernel_rfl
theorem c118 : callable Tryz.prog F118 = true := by kernel_rfl
theorem c119 : callable Tryz.prog F119 = true := by kernel_rfl
theorem rdcheck_spec (d : Dt) (v1 v2 v3 : Value) (H : View) (hd : RepDt H d v1 v2 v3) (hb : d.ranks.length ≤ 1048576 ∧ d.acc.length ≤ 1048576 ∧ d.to.length ≤ 1048576 ∧ ∀ x ∈ d.to, x.length ≤ 1048576) : Sat Tryz.prog F29 #[.agg #[v1, v2, v3]] H (fun r _ => r = .int .i64 (dtErr d)) := by
  obtain ⟨hb1, hb2, hb3, hb4⟩ := hb
  obtain ⟨ua1, uc1x, rfl⟩ := hd.r.shape
  obtain ⟨ua2, uc2x, rfl⟩ := hd.a.shape
  obtain ⟨ua3, uc3x, rfl⟩ := hd.t.shape
  refine enterO (n := 85) (args := [.agg #[.slice ua1 d.ranks.length uc1x, .slice ua2 d.acc.length uc2x, .slice ua3 d.to.length uc3x]]) Tryz.func12 rfl rfl rfl fun w0 => ?_
  refine K_seq ?_
  refine K_region ?_
  refine KA (A_box rfl) rfl fun b1 => ?_
  refine KV (R_assign rfl) rfl ?_
  refine K_nil ?_
  refine Q_then ?_
  refine K_seq ?_
  refine K_seq ?_
  refine K_region ?_
  refine KV (R_fieldAddr 0 fd63_0 rfl) rfl ?_
  refine KV (R_loadO ty25 0 rfl rfl rfl rfl (fun _ => rfl) rfl) rfl ?_
  refine K_call c36 rfl rfl (rcheck31_spec d.ranks _ H hd.r (by omega)) ?_
  rintro _ V1 hle1 rfl
  refine KV (R_assign rfl) rfl ?_
  refine K_nil ?_
  refine Q_then ?_
  refine K_seq ?_
  refine K_region ?_
  refine KV (R_move rfl) rfl ?_
  refine KV (R_cmp rfl rfl rfl) rfl ?_
  refine K_nil ?_
  refine Q_then ?_
  refine K_if rfl (fun h12 => ?_) (fun h12 => ?_)
  ·
    refine K_seq ?_
    refine K_region ?_
    refine KV (R_move rfl) rfl ?_
    refine KV (R_assign rfl) rfl ?_
    refine K_nil ?_
    refine Q_then ?_
    refine K_ret ?_
    refine Q_then_ret ?_
    refine results_gen (rs := [.tmp 2]) (vs := [_]) rfl ⟨rfl, trivial⟩ ?_
    simp only [tupV, dtErr]
    rw [if_pos h12]
  ·
    have hrks := (ranksErr_ok (Decidable.not_not.1 h12)).2
    refine K_skip ?_
    refine Q_then ?_
    refine K_seq ?_
    refine K_region ?_
    refine KV (R_fieldAddr 1 fd63_1 rfl) rfl ?_
    refine KV (R_loadO ty52 0 rfl rfl rfl rfl (fun _ => rfl) rfl) rfl ?_
    refine KV (R_len sl52 rfl) rfl ?_
    refine KV (R_assign rfl) rfl ?_
    refine K_nil ?_
    refine Q_then ?_
    refine K_seq ?_
    refine K_seq ?_
    refine K_region ?_
    refine KV (R_move rfl) rfl ?_
    refine KV (R_cmp rfl rfl rfl) rfl ?_
    refine KV (R_move rfl) rfl ?_
    refine K_split ?_ ?_
    ·
      intro h19
      refine K_gno rfl rfl rfl rfl ?_
      refine K_gno rfl rfl rfl rfl ?_
      refine KV (R_pickT rfl rfl) rfl ?_
      refine K_nil ?_
      refine Q_then ?_
      refine K_ifT rfl ?_
      refine K_seq ?_
      refine K_region ?_
      refine KV (R_assign rfl) rfl ?_
      refine K_nil ?_
      refine Q_then ?_
      refine K_ret ?_
      refine Q_then_ret ?_
      refine results_gen (rs := [.tmp 2]) (vs := [_]) rfl ⟨rfl, trivial⟩ ?_
      simp only [tupV, dtErr]
      rw [if_neg h12, if_pos (by omega)]
    ·
      intro h19
      refine K_gyes rfl rfl ?_
      refine KV (R_move rfl) rfl ?_
      refine K_gyes rfl rfl ?_
      refine KV (R_cmp rfl rfl rfl) rfl ?_
      refine KV (R_pickF rfl rfl) rfl ?_
      refine K_nil ?_
      refine Q_then ?_
      refine K_if rfl (fun h22 => ?_) (fun h22 => ?_)
      ·
        refine K_seq ?_
        refine K_region ?_
        refine KV (R_assign rfl) rfl ?_
        refine K_nil ?_
        refine Q_then ?_
        refine K_ret ?_
        refine Q_then_ret ?_
        refine results_gen (rs := [.tmp 2]) (vs := [_]) rfl ⟨rfl, trivial⟩ ?_
        simp only [tupV, dtErr]
        rw [if_neg h12, if_pos (by omega)]
      ·
        refine K_skip ?_
        refine Q_then ?_
        refine K_seq ?_
        refine K_seq ?_
        refine K_region ?_
        refine KV (R_fieldAddr 2 fd63_2 rfl) rfl ?_
        refine KV (R_loadO ty44 0 rfl rfl rfl rfl (fun _ => rfl) rfl) rfl ?_
        refine KV (R_len sl44 rfl) rfl ?_
        refine KV (R_fieldAddr 0 fd63_0 rfl) rfl ?_
        refine KV (R_loadO ty25 0 rfl rfl rfl rfl (fun _ => rfl) rfl) rfl ?_
        refine KV (R_len sl25 rfl) rfl ?_
        refine KV (R_cmp rfl rfl rfl) rfl ?_
        refine K_nil ?_
        refine Q_then ?_
        refine K_if rfl (fun h29 => ?_) (fun h29 => ?_)
        ·
          refine K_seq ?_
          refine K_region ?_
          refine KV (R_assign rfl) rfl ?_
          refine K_nil ?_
          refine Q_then ?_
          refine K_ret ?_
          refine Q_then_ret ?_
          refine results_gen (rs := [.tmp 2]) (vs := [_]) rfl ⟨rfl, trivial⟩ ?_
          simp only [tupV, dtErr]
          rw [if_neg h12, if_neg (by omega), if_pos h29]
        ·
          refine K_skip ?_
          refine Q_then ?_
          refine K_seq ?_
          refine K_seq ?_
          refine K_region ?_
          refine KV (R_assign rfl) rfl ?_
          refine K_nil ?_
          refine Q_then ?_
          refine K_block ?_
          refine K_loopD (G := Nat × View) [2, 5, 30, 31, 32, 33, 34, 35, 36, 37, 38, 39, 40, 41, 42, 43, 44, 45, 46] (fun g => [(5, .int .i64 (g.1 : Int))]) (fun hl g => hl) (fun g => g.2) (fun g => (g.1 ≤ d.to.length) ∧ (VLe H g.2) ∧ (∀ j (h : j < d.to.length), j < g.1 → (d.to.getD j []).length = d.acc.length ^ (d.ranks.getD j 0).toNat)) (fun g => d.to.length - g.1) (0, V1) ⟨Nat.zero_le _, hle1, fun j _ h => by simp at h⟩ ⟨rfl, trivial⟩ (by simp only [args0, Nat.reduceAdd, del, memN, beqN, Nat.reduceBEq, cond_true, cond_false]; rfl) rfl rfl ?_
          rintro ⟨s, V⟩ ⟨hs, hV, hwid⟩
          dsimp only at hs hV hwid
          dsimp only [List.set, List.cons_append, List.nil_append]
          refine K_seq ?_
          refine K_seq ?_
          refine K_region ?_
          refine KV (R_move rfl) rfl ?_
          refine KV (R_fieldAddr 2 fd63_2 rfl) rfl ?_
          refine KV (R_loadO ty44 0 rfl rfl rfl rfl (fun _ => rfl) rfl) rfl ?_
          refine KV (R_len sl44 rfl) rfl ?_
          refine KV (R_cmp rfl rfl rfl) rfl ?_
          refine K_nil ?_
          refine Q_then ?_
          refine K_if rfl (fun h34 => ?_) (fun h34 => ?_)
          ·
            have hs' : s < d.to.length := by omega
            obtain ⟨tb, to_, ea, ecp, hte, hta, hes⟩ := (hd.mono hV).t.get hs'
            cases hte
            have hsm : s < d.ranks.length := by omega
            obtain ⟨rb, ro, hre, hrk⟩ := (hd.mono hV).r.get hsm
            cases hre
            have hrr := hrks s hsm
            have hgs : d.to.getD s [] = d.to[s] := by simp [List.getD, hs']
            have hgr : d.ranks.getD s 0 = d.ranks[s] := by simp [List.getD, hsm]
            refine K_skip ?_
            refine Q_then ?_
            refine K_seq ?_
            refine K_block ?_
            refine K_seq ?_
            refine K_regionD (fin := false) (R := [0, 1, 2, 3, 4, 5, 6, 7, 8, 9]) (by kernel_rfl) mixed (.cons_cons _ (List.nil_sublist _)) ?_
            refine D_val rfl rfl rfl (R_fieldAddr 2 fd63_2 rfl) ?_
            refine D_val rfl rfl rfl (R_loadO ty44 0 rfl rfl rfl rfl (fun _ => rfl) rfl) ?_
            refine D_val rfl rfl rfl (R_move rfl) ?_
            refine D_val rfl rfl rfl (R_indexN sl44 ty25 rfl rfl (by omega)) ?_
            refine D_val rfl rfl rfl (R_loadH ty25 rfl (hta) rfl (fun _ => rfl) rfl) ?_
            refine D_val rfl rfl rfl (R_len sl25 rfl) ?_
            refine D_val rfl rfl rfl (R_loadO ty63 0 rfl rfl rfl rfl (fun e => by cases e) rfl) ?_
            refine D_val rfl rfl rfl (R_move rfl) ?_
            refine D_call rfl rfl c66 rfl ⟨⟨0, rfl⟩, trivial⟩ (places_spec d s _ _ _ V (hd.mono hV) (by omega) hsm hrr) ?_
            rintro _ V2 hv2 rfl
            refine D_val rfl rfl rfl (R_cmp rfl rfl rfl) ?_
            refine D_done ?_
            refine Q_then ?_
            refine K_if rfl (fun h46 => ?_) (fun h46 => ?_)
            ·
              have hwb : widthBad d = true := by
                unfold widthBad
                rw [List.any_eq_true]
                refine ⟨s, List.mem_range.2 hs', ?_⟩
                simp only [decide_eq_true_eq, hgs, hgr]
                omega
              refine K_seq ?_
              refine K_region ?_
              refine KV (R_assign rfl) rfl ?_
              refine K_nil ?_
              refine Q_then ?_
              refine K_ret ?_
              refine Q_block_ret ?_
              refine Q_then_ret ?_
              refine Q_then_ret ?_
              refine Q_block_ret ?_
              refine Q_then_ret ?_
              refine results_gen (rs := [.tmp 2]) (vs := [_]) rfl ⟨rfl, trivial⟩ ?_
              simp only [tupV, dtErr]
              rw [if_neg h12, if_neg (by omega), if_neg h29, if_pos hwb]
            ·
              have hwid2 : ∀ j (h : j < d.to.length), j < s + 1 → (d.to.getD j []).length = d.acc.length ^ (d.ranks.getD j 0).toNat := by
                intro j h hj
                by_cases e : j = s
                · subst e; rw [hgs, hgr]; omega
                · exact hwid j h (by omega)
              refine K_skip ?_
              refine Q_block ?_
              refine Q_then ?_
              refine K_region ?_
              refine KV (R_move rfl) rfl ?_
              refine KV (R_add rfl rfl (by omega)) rfl ?_
              refine KV (R_assign rfl) rfl ?_
              refine K_nil ?_
              refine Q_nextD (s + 1, V2) ⟨hs', hV.trans hv2, hwid2⟩ (by (try dsimp only); omega) ⟨rfl, trivial⟩ rfl rfl rfl
          ·
            have hwb : widthBad d = false := by
              unfold widthBad
              rw [List.any_eq_false]
              intro s hs
              have hs2 := List.mem_range.1 hs
              have := hwid s hs2 (by omega)
              simpa using this
            refine K_exit ?_
            refine Q_then_exit ?_
            refine Q_then_exit ?_
            refine Q_block_exit ?_
            refine Q_then ?_
            refine K_seq ?_
            refine K_seq ?_
            refine K_region ?_
            refine KV (R_assign rfl) rfl ?_
            refine K_nil ?_
            refine Q_then ?_
            refine K_block ?_
            refine K_loopD (G := Nat) [2, 6, 7, 47, 48, 49, 50, 51, 52, 53, 54, 55, 56, 57, 58, 59, 60, 61, 62, 63, 64, 65, 66, 67, 68, 69, 70, 71, 72, 73, 74, 75, 76, 77, 78, 79, 80, 81, 82, 83, 84] (fun g => [(6, .int .i64 (g : Int))]) (fun hl g => hl) (fun g => V) (fun g => (g ≤ d.to.length) ∧ (∀ j (h : j < d.to.length), j < g → d.to[j].any (badQ d.acc.length) = false)) (fun g => d.to.length - g) 0 ⟨Nat.zero_le _, fun j _ h => by simp at h⟩ ⟨rfl, trivial⟩ (by simp only [args0, Nat.reduceAdd, del, memN, beqN, Nat.reduceBEq, cond_true, cond_false]; rfl) rfl rfl ?_
            rintro s ⟨hs, hent⟩
            try dsimp only at hs
            try dsimp only at hent
            dsimp only [List.set, List.cons_append, List.nil_append]
            refine K_seq ?_
            refine K_seq ?_
            refine K_region ?_
            refine KV (R_move rfl) rfl ?_
            refine KV (R_fieldAddr 2 fd63_2 rfl) rfl ?_
            refine KV (R_loadO ty44 0 rfl rfl rfl rfl (fun _ => rfl) rfl) rfl ?_
            refine KV (R_len sl44 rfl) rfl ?_
            refine KV (R_cmp rfl rfl rfl) rfl ?_
            refine K_nil ?_
            refine Q_then ?_
            refine K_if rfl (fun h51 => ?_) (fun h51 => ?_)
            ·
              have hs' : s < d.to.length := by omega
              obtain ⟨tb, to_, ea, ecp, hte, hta, hes⟩ := (hd.mono hV).t.get hs'
              cases hte
              have hbl := hb4 _ (List.getElem_mem hs')
              refine K_skip ?_
              refine Q_then ?_
              refine K_seq ?_
              refine K_block ?_
              refine K_seq ?_
              refine K_region ?_
              refine KV (R_assign rfl) rfl ?_
              refine K_nil ?_
              refine Q_then ?_
              refine K_block ?_
              refine K_loopD (G := Nat) [2, 7, 54, 55, 56, 57, 58, 59, 60, 61, 62, 63, 64, 65, 66, 67, 68, 69, 70, 71, 72, 73, 74, 75, 76, 77, 78, 79, 80, 81, 82, 83, 84] (fun g => [(7, .int .i64 (g : Int))]) (fun hl g => hl) (fun g => V) (fun g => (g ≤ d.to[s].length) ∧ (∀ j (h : j < d.to[s].length), j < g → badQ d.acc.length d.to[s][j] = false)) (fun g => d.to[s].length - g) 0 ⟨Nat.zero_le _, fun j _ h => by simp at h⟩ ⟨rfl, trivial⟩ (by simp only [args0, Nat.reduceAdd, del, memN, beqN, Nat.reduceBEq, cond_true, cond_false]; rfl) rfl rfl ?_
              rintro k ⟨hk, hno⟩
              try dsimp only at hk
              try dsimp only at hno
              dsimp only [List.set, List.cons_append, List.nil_append]
              refine K_seq ?_
              refine K_seq ?_
              refine K_region ?_
              refine KV (R_move rfl) rfl ?_
              refine KV (R_fieldAddr 2 fd63_2 rfl) rfl ?_
              refine KV (R_loadO ty44 0 rfl rfl rfl rfl (fun _ => rfl) rfl) rfl ?_
              refine KV (R_move rfl) rfl ?_
              refine KV (R_indexN sl44 ty25 rfl rfl (by omega)) rfl ?_
              refine KV (R_loadH ty25 rfl (hta) rfl (fun _ => rfl) rfl) rfl ?_
              refine KV (R_len sl25 rfl) rfl ?_
              refine KV (R_cmp rfl rfl rfl) rfl ?_
              refine K_nil ?_
              refine Q_then ?_
              refine K_if rfl (fun h61 => ?_) (fun h61 => ?_)
              ·
                have hk' : k < d.to[s].length := by omega
                obtain ⟨eb, eo, hee, htx⟩ := hes.get hk'
                cases hee
                refine K_skip ?_
                refine Q_then ?_
                refine K_seq ?_
                refine K_block ?_
                refine K_seq ?_
                refine K_region ?_
                refine KV (R_fieldAddr 2 fd63_2 rfl) rfl ?_
                refine KV (R_loadO ty44 0 rfl rfl rfl rfl (fun _ => rfl) rfl) rfl ?_
                refine KV (R_move rfl) rfl ?_
                refine KV (R_indexN sl44 ty25 rfl rfl (by omega)) rfl ?_
                refine KV (R_loadH ty25 rfl (hta) rfl (fun _ => rfl) rfl) rfl ?_
                refine KV (R_move rfl) rfl ?_
                refine KV (R_indexN sl25 ty3 rfl rfl (by omega)) rfl ?_
                refine KV (R_loadH ty3 rfl (htx) rfl (fun _ => rfl) rfl) rfl ?_
                refine KV (R_cmp rfl rfl rfl) rfl ?_
                refine KV (R_move rfl) rfl ?_
                refine K_split ?_ ?_
                ·
                  intro h73
                  refine K_gno rfl rfl rfl rfl ?_
                  refine K_gno rfl rfl rfl rfl ?_
                  refine K_gno rfl rfl rfl rfl ?_
                  refine K_gno rfl rfl rfl rfl ?_
                  refine K_gno rfl rfl rfl rfl ?_
                  refine K_gno rfl rfl rfl rfl ?_
                  refine K_gno rfl rfl rfl rfl ?_
                  refine K_gno rfl rfl rfl rfl ?_
                  refine K_gno rfl rfl rfl rfl ?_
                  refine K_gno rfl rfl rfl rfl ?_
                  refine KV (R_pickT rfl rfl) rfl ?_
                  refine K_nil ?_
                  refine Q_then ?_
                  refine K_ifT rfl ?_
                  refine K_seq ?_
                  refine K_region ?_
                  refine KV (R_assign rfl) rfl ?_
                  refine K_nil ?_
                  refine Q_then ?_
                  refine K_ret ?_
                  refine Q_block_ret ?_
                  refine Q_then_ret ?_
                  refine Q_then_ret ?_
                  refine Q_block_ret ?_
                  refine Q_block_ret ?_
                  refine Q_then_ret ?_
                  refine Q_then_ret ?_
                  refine Q_block_ret ?_
                  refine Q_then_ret ?_
                  refine results_gen (rs := [.tmp 2]) (vs := [_]) rfl ⟨rfl, trivial⟩ ?_
                  have heb : entryBad d = true := List.any_eq_true.2 ⟨_, List.getElem_mem hs', List.any_eq_true.2 ⟨_, List.getElem_mem hk', by simp [badQ]; omega⟩⟩
                  simp only [tupV, dtErr]
                  rw [if_neg h12, if_neg (by omega), if_neg h29, hwb, heb]
                  rfl
                ·
                  intro h73
                  refine K_gyes rfl rfl ?_
                  refine KV (R_fieldAddr 2 fd63_2 rfl) rfl ?_
                  refine K_gyes rfl rfl ?_
                  refine KV (R_loadO ty44 0 rfl rfl rfl rfl (fun _ => rfl) rfl) rfl ?_
                  refine K_gyes rfl rfl ?_
                  refine KV (R_move rfl) rfl ?_
                  refine K_gyes rfl rfl ?_
                  refine KV (R_indexN sl44 ty25 rfl rfl (by omega)) rfl ?_
                  refine K_gyes rfl rfl ?_
                  refine KV (R_loadH ty25 rfl (hta) rfl (fun _ => rfl) rfl) rfl ?_
                  refine K_gyes rfl rfl ?_
                  refine KV (R_move rfl) rfl ?_
                  refine K_gyes rfl rfl ?_
                  refine KV (R_indexN sl25 ty3 rfl rfl (by omega)) rfl ?_
                  refine K_gyes rfl rfl ?_
                  refine KV (R_loadH ty3 rfl (htx) rfl (fun _ => rfl) rfl) rfl ?_
                  refine K_gyes rfl rfl ?_
                  refine KV (R_move rfl) rfl ?_
                  refine K_gyes rfl rfl ?_
                  refine KV (R_cmp rfl rfl rfl) rfl ?_
                  refine KV (R_pickF rfl rfl) rfl ?_
                  refine K_nil ?_
                  refine Q_then ?_
                  refine K_if rfl (fun h84 => ?_) (fun h84 => ?_)
                  ·
                    refine K_seq ?_
                    refine K_region ?_
                    refine KV (R_assign rfl) rfl ?_
                    refine K_nil ?_
                    refine Q_then ?_
                    refine K_ret ?_
                    refine Q_block_ret ?_
                    refine Q_then_ret ?_
                    refine Q_then_ret ?_
                    refine Q_block_ret ?_
                    refine Q_block_ret ?_
                    refine Q_then_ret ?_
                    refine Q_then_ret ?_
                    refine Q_block_ret ?_
                    refine Q_then_ret ?_
                    refine results_gen (rs := [.tmp 2]) (vs := [_]) rfl ⟨rfl, trivial⟩ ?_
                    have heb : entryBad d = true := List.any_eq_true.2 ⟨_, List.getElem_mem hs', List.any_eq_true.2 ⟨_, List.getElem_mem hk', by simp [badQ]; omega⟩⟩
                    simp only [tupV, dtErr]
                    rw [if_neg h12, if_neg (by omega), if_neg h29, hwb, heb]
                    rfl
                  ·
                    have hno2 : ∀ j (h : j < d.to[s].length), j < k + 1 → badQ d.acc.length d.to[s][j] = false := by
                      intro j h hj
                      by_cases e : j = k
                      · subst e; simp [badQ]; omega
                      · exact hno j h (by omega)
                    refine K_skip ?_
                    refine Q_block ?_
                    refine Q_then ?_
                    refine K_region ?_
                    refine KV (R_move rfl) rfl ?_
                    refine KV (R_add rfl rfl (by omega)) rfl ?_
                    refine KV (R_assign rfl) rfl ?_
                    refine K_nil ?_
                    refine Q_nextD (k + 1) ⟨hk', hno2⟩ (by (try dsimp only); omega) ⟨rfl, trivial⟩ rfl rfl rfl
              ·
                have hk' : k = d.to[s].length := by omega
                have hent2 : ∀ j (h : j < d.to.length), j < s + 1 → d.to[j].any (badQ d.acc.length) = false := by
                  intro j h hj
                  by_cases e : j = s
                  · subst e
                    rw [List.any_eq_false]
                    intro x hx
                    obtain ⟨i, hi, rfl⟩ := List.getElem_of_mem hx
                    simp [hno i hi (by omega)]
                  · exact hent j h (by omega)
                refine K_exit ?_
                refine Q_then_exit ?_
                refine Q_then_exit ?_
                refine Q_block_exit ?_
                refine Q_block ?_
                refine Q_then ?_
                refine K_region ?_
                refine KV (R_move rfl) rfl ?_
                refine KV (R_add rfl rfl (by omega)) rfl ?_
                refine KV (R_assign rfl) rfl ?_
                refine K_nil ?_
                refine Q_nextD (s + 1) ⟨hs', hent2⟩ (by (try dsimp only); omega) ⟨rfl, trivial⟩ rfl rfl rfl
            ·
              have heb : entryBad d = false := by
                unfold entryBad
                rw [List.any_eq_false]
                intro x hx
                obtain ⟨j, hj, rfl⟩ := List.getElem_of_mem hx
                simp [hent j hj (by omega)]
              refine K_exit ?_
              refine Q_then_exit ?_
              refine Q_then_exit ?_
              refine Q_block_exit ?_
              refine Q_then ?_
              refine K_seq ?_
              refine K_region ?_
              refine KV (R_assign rfl) rfl ?_
              refine K_nil ?_
              refine Q_then ?_
              refine K_ret ?_
              refine results_gen (rs := [.tmp 2]) (vs := [_]) rfl ⟨rfl, trivial⟩ ?_
              simp only [tupV, dtErr]
              rw [if_neg h12, if_neg (by omega), if_neg h29, hwb, heb]
              rfl

theorem rnodes_spec (rk : List Int) (rv : Value) (hrkl : rk.length ≤ 1099511627776) : ∀ m t H cs, t.size ≤ m → m ≤ 1099511627776 → RepT H t cs → SI H rv rk → Sat Tryz.prog F75 #[rv, .agg cs.toArray] H (fun r _ => r = .int .i64 (Tr.nodesErr rk t)) := by
  intro m
  induction m with
  | zero => intro t H cs h; have := t.size_pos; omega
  | succ m ih =>
  intro t H cs hm hb hr hrv
  cases hr with | mk s ts a cap b off cs' hs ha hA hrec =>
  obtain ⟨va, vc, rfl⟩ := hrv.shape
  have hsz : (Tr.node s ts).size = 1 + Tr.sizes ts := rfl
  have hln := Tr.length_le_sizes ts
  have hunf : Tr.nodesErr rk (.node s ts) = if s < 0 ∨ (rk.length : Int) ≤ s then 6 else if (ts.length : Int) ≠ rk.getD s.toNat 0 then 3 else Tr.nodesErrs rk ts := by simp only [Tr.nodesErr]
  refine enterO (n := 43) (args := [.slice va rk.length vc, .agg #[.int .i64 s, .slice a ts.length cap]]) Tryz.func41 rfl rfl rfl fun w0 => ?_
  refine K_seq ?_
  refine K_region ?_
  refine KA (A_box rfl) rfl fun b3 => ?_
  refine KV (R_assign rfl) rfl ?_
  refine K_nil ?_
  refine Q_then ?_
  refine K_seq ?_
  refine K_seq ?_
  refine K_region ?_
  refine KV (R_fieldAddr 0 fd24_0 rfl) rfl ?_
  refine KV (R_loadO ty3 0 rfl rfl rfl rfl (fun _ => rfl) rfl) rfl ?_
  refine KV (R_cmp rfl rfl rfl) rfl ?_
  refine KV (R_move rfl) rfl ?_
  refine K_split ?_ ?_
  ·
    intro h10
    refine K_gno rfl rfl rfl rfl ?_
    refine K_gno rfl rfl rfl rfl ?_
    refine K_gno rfl rfl rfl rfl ?_
    refine K_gno rfl rfl rfl rfl ?_
    refine K_gno rfl rfl rfl rfl ?_
    refine KV (R_pickT rfl rfl) rfl ?_
    refine K_nil ?_
    refine Q_then ?_
    refine K_ifT rfl ?_
    refine K_seq ?_
    refine K_region ?_
    refine KV (R_assign rfl) rfl ?_
    refine K_nil ?_
    refine Q_then ?_
    refine K_ret ?_
    refine Q_then_ret ?_
    refine results_gen (rs := [.tmp 4]) (vs := [_]) rfl ⟨rfl, trivial⟩ ?_
    rw [hunf, if_pos (.inl (by omega))]
    rfl
  ·
    intro h10
    refine K_gyes rfl rfl ?_
    refine KV (R_fieldAddr 0 fd24_0 rfl) rfl ?_
    refine K_gyes rfl rfl ?_
    refine KV (R_loadO ty3 0 rfl rfl rfl rfl (fun _ => rfl) rfl) rfl ?_
    refine K_gyes rfl rfl ?_
    refine KV (R_move rfl) rfl ?_
    refine K_gyes rfl rfl ?_
    refine KV (R_len sl25 rfl) rfl ?_
    refine K_gyes rfl rfl ?_
    refine KV (R_cmp rfl rfl rfl) rfl ?_
    refine KV (R_pickF rfl rfl) rfl ?_
    refine K_nil ?_
    refine Q_then ?_
    refine K_if rfl (fun h16 => ?_) (fun h16 => ?_)
    ·
      refine K_seq ?_
      refine K_region ?_
      refine KV (R_assign rfl) rfl ?_
      refine K_nil ?_
      refine Q_then ?_
      refine K_ret ?_
      refine Q_then_ret ?_
      refine results_gen (rs := [.tmp 4]) (vs := [_]) rfl ⟨rfl, trivial⟩ ?_
      rw [hunf, if_pos (.inr (by omega))]
      rfl
    ·
      have hs0 : 0 ≤ s := by omega
      have hs1 : s < rk.length := by omega
      have hs2 : s.toNat < rk.length := by omega
      obtain ⟨rb, ro, rfl, hrk⟩ := hrv.get hs2
      have hgd : rk.getD s.toNat 0 = rk[s.toNat] := by simp [List.getD, hs2]
      refine K_skip ?_
      refine Q_then ?_
      refine K_seq ?_
      refine K_seq ?_
      refine K_regionD (fin := false) (R := [0, 1, 2, 3, 4, 5, 6, 7, 8]) (by kernel_rfl) mixed (.cons_cons _ (List.nil_sublist _)) ?_
      refine D_val rfl rfl rfl (R_fieldAddr 1 fd24_1 rfl) ?_
      refine D_val rfl rfl rfl (R_loadO ty22 0 rfl rfl rfl rfl (fun _ => rfl) rfl) ?_
      refine D_val rfl rfl rfl (R_len sl22 rfl) ?_
      refine D_val rfl rfl rfl (R_move rfl) ?_
      refine D_val rfl rfl rfl (R_fieldAddr 0 fd24_0 rfl) ?_
      refine D_val rfl rfl rfl (R_loadO ty3 0 rfl rfl rfl rfl (fun _ => rfl) rfl) ?_
      refine D_val rfl rfl rfl (R_index sl25 ty3 rfl rfl ⟨hs0, hs1⟩) ?_
      refine D_val rfl rfl rfl (R_loadH ty3 rfl (hrk) rfl (fun _ => rfl) rfl) ?_
      refine D_val rfl rfl rfl (R_cmp rfl rfl rfl) ?_
      refine D_done ?_
      refine Q_then ?_
      refine K_if rfl (fun h25 => ?_) (fun h25 => ?_)
      ·
        refine K_seq ?_
        refine K_region ?_
        refine KV (R_assign rfl) rfl ?_
        refine K_nil ?_
        refine Q_then ?_
        refine K_ret ?_
        refine Q_then_ret ?_
        refine results_gen (rs := [.tmp 4]) (vs := [_]) rfl ⟨rfl, trivial⟩ ?_
        rw [hunf, if_neg (by omega), hgd, if_pos h25]
        rfl
      ·
        refine K_skip ?_
        refine Q_then ?_
        refine K_seq ?_
        refine K_seq ?_
        refine K_region ?_
        refine KV (R_assign rfl) rfl ?_
        refine K_nil ?_
        refine Q_then ?_
        refine K_block ?_
        refine K_loopD (G := Nat × View) [4, 5, 6, 26, 27, 28, 29, 30, 31, 32, 33, 34, 35, 36, 37, 38, 39, 40, 41, 42] (fun g => [(5, .int .i64 (g.1 : Int))]) (fun hl g => hl) (fun g => g.2) (fun g => (g.1 ≤ ts.length) ∧ (VLe H g.2) ∧ (Tr.nodesErrs rk ts = Tr.nodesErrs rk (ts.drop g.1))) (fun g => ts.length - g.1) (0, H) ⟨Nat.zero_le _, VLe.refl _, rfl⟩ ⟨rfl, trivial⟩ (by simp only [args0, Nat.reduceAdd, del, memN, beqN, Nat.reduceBEq, cond_true, cond_false]; rfl) rfl rfl ?_
        rintro ⟨k, V⟩ ⟨hk, hV, hcm⟩
        dsimp only at hk hV hcm
        dsimp only [List.set, List.cons_append, List.nil_append]
        refine K_seq ?_
        refine K_seq ?_
        refine K_region ?_
        refine KV (R_move rfl) rfl ?_
        refine KV (R_fieldAddr 1 fd24_1 rfl) rfl ?_
        refine KV (R_loadO ty22 0 rfl rfl rfl rfl (fun _ => rfl) rfl) rfl ?_
        refine KV (R_len sl22 rfl) rfl ?_
        refine KV (R_cmp rfl rfl rfl) rfl ?_
        refine K_nil ?_
        refine Q_then ?_
        refine K_if rfl (fun h30 => ?_) (fun h30 => ?_)
        ·
          have hlt' : k < ts.length := by omega
          have htk := Tr.sizes_take ts k hlt'
          have hle' := Tr.sizes_take_le ts (k + 1)
          have hcd := Tr.nodesErrs_cons (rk := rk) hlt'
          have ha' := ha (by intro e; subst e; simp at hlt')
          subst ha'
          refine K_skip ?_
          refine Q_then ?_
          refine K_seq ?_
          refine K_block ?_
          refine K_seq ?_
          refine K_region ?_
          refine KV (R_move rfl) rfl ?_
          refine KV (R_fieldAddr 1 fd24_1 rfl) rfl ?_
          refine KV (R_loadO ty22 0 rfl rfl rfl rfl (fun _ => rfl) rfl) rfl ?_
          refine KV (R_move rfl) rfl ?_
          refine KV (R_indexN sl22 ty24 rfl rfl (by omega)) rfl ?_
          refine KV (R_loadH ty24 rfl ((hA k hlt').2.mono hV) (hA k hlt').1 (fun e => by cases e) rfl) rfl ?_
          refine K_call c75 rfl rfl (ih ts[k] V (cs' k) (by omega) (by omega) ((hrec k hlt').mono hV) (hrv.mono hV)) ?_
          rintro _ V1 hle1 rfl
          refine KV (R_assign rfl) rfl ?_
          refine K_nil ?_
          refine Q_then ?_
          refine K_seq ?_
          refine K_region ?_
          refine KV (R_move rfl) rfl ?_
          refine KV (R_cmp rfl rfl rfl) rfl ?_
          refine K_nil ?_
          refine Q_then ?_
          refine K_if rfl (fun h41 => ?_) (fun h41 => ?_)
          ·
            refine K_seq ?_
            refine K_region ?_
            refine KV (R_move rfl) rfl ?_
            refine KV (R_assign rfl) rfl ?_
            refine K_nil ?_
            refine Q_then ?_
            refine K_ret ?_
            refine Q_block_ret ?_
            refine Q_then_ret ?_
            refine Q_then_ret ?_
            refine Q_block_ret ?_
            refine Q_then_ret ?_
            refine results_gen (rs := [.tmp 4]) (vs := [_]) rfl ⟨rfl, trivial⟩ ?_
            rw [hunf, if_neg (by omega), hgd, if_neg h25, hcm, hcd, if_pos h41]
            rfl
          ·
            refine K_skip ?_
            refine Q_block ?_
            refine Q_then ?_
            refine K_region ?_
            refine KV (R_move rfl) rfl ?_
            refine KV (R_add rfl rfl (by omega)) rfl ?_
            refine KV (R_assign rfl) rfl ?_
            refine K_nil ?_
            refine Q_nextD (k + 1, V1) ⟨hlt', hV.trans hle1, by rw [hcm, hcd, if_neg h41]⟩ (by (try dsimp only); omega) ⟨rfl, trivial⟩ rfl rfl rfl
        ·
          have hk' : k = ts.length := by omega
          subst hk'
          refine K_exit ?_
          refine Q_then_exit ?_
          refine Q_then_exit ?_
          refine Q_block_exit ?_
          refine Q_then ?_
          refine K_seq ?_
          refine K_region ?_
          refine KV (R_assign rfl) rfl ?_
          refine K_nil ?_
          refine Q_then ?_
          refine K_ret ?_
          refine results_gen (rs := [.tmp 4]) (vs := [_]) rfl ⟨rfl, trivial⟩ ?_
          rw [hunf, if_neg (by omega), hgd, if_neg h25, hcm, List.drop_length]
          rfl

theorem right_spec (rk : List Int) (rv : Value) (hrkl : rk.length ≤ 1099511627776) : ∀ m t H cs, t.size ≤ m → m ≤ 1099511627776 → RepT H t cs → SI H rv rk → Sat Tryz.prog F115 #[rv, .agg cs.toArray] H (fun r _ => r = .int .i64 (Tr.nodesErr rk t)) := by
  intro m
  induction m with
  | zero => intro t H cs h; have := t.size_pos; omega
  | succ m ih =>
  intro t H cs hm hb hr hrv
  cases hr with | mk s ts a cap b off cs' hs ha hA hrec =>
  obtain ⟨va, vc, rfl⟩ := hrv.shape
  have hsz : (Tr.node s ts).size = 1 + Tr.sizes ts := rfl
  have hln := Tr.length_le_sizes ts
  have hunf : Tr.nodesErr rk (.node s ts) = if s < 0 ∨ (rk.length : Int) ≤ s then 6 else if (ts.length : Int) ≠ rk.getD s.toNat 0 then 3 else Tr.nodesErrs rk ts := by simp only [Tr.nodesErr]
  refine enterO (n := 43) (args := [.slice va rk.length vc, .agg #[.int .i64 s, .slice a ts.length cap]]) Tryz.func76 rfl rfl rfl fun w0 => ?_
  refine K_seq ?_
  refine K_region ?_
  refine KA (A_box rfl) rfl fun b3 => ?_
  refine KV (R_assign rfl) rfl ?_
  refine K_nil ?_
  refine Q_then ?_
  refine K_seq ?_
  refine K_block ?_
  refine K_seq ?_
  refine K_region ?_
  refine KV (R_fieldAddr 0 fd30_0 rfl) rfl ?_
  refine KV (R_loadO ty3 0 rfl rfl rfl rfl (fun _ => rfl) rfl) rfl ?_
  refine KV (R_cmp rfl rfl rfl) rfl ?_
  refine KV (R_move rfl) rfl ?_
  refine K_split ?_ ?_
  ·
    intro h12
    refine K_gno rfl rfl rfl rfl ?_
    refine K_gno rfl rfl rfl rfl ?_
    refine K_gno rfl rfl rfl rfl ?_
    refine K_gno rfl rfl rfl rfl ?_
    refine K_gno rfl rfl rfl rfl ?_
    refine KV (R_pickT rfl rfl) rfl ?_
    refine KV (R_assign rfl) rfl ?_
    refine K_nil ?_
    refine Q_then ?_
    refine K_ifT rfl ?_
    refine K_seq ?_
    refine K_region ?_
    refine KV (R_assign rfl) rfl ?_
    refine K_nil ?_
    refine Q_then ?_
    refine K_ret ?_
    refine Q_block_ret ?_
    refine Q_then_ret ?_
    refine results_gen (rs := [.tmp 4]) (vs := [_]) rfl ⟨rfl, trivial⟩ ?_
    rw [hunf, if_pos (.inl (by omega))]
    rfl
  ·
    intro h12
    refine K_gyes rfl rfl ?_
    refine KV (R_fieldAddr 0 fd30_0 rfl) rfl ?_
    refine K_gyes rfl rfl ?_
    refine KV (R_loadO ty3 0 rfl rfl rfl rfl (fun _ => rfl) rfl) rfl ?_
    refine K_gyes rfl rfl ?_
    refine KV (R_move rfl) rfl ?_
    refine K_gyes rfl rfl ?_
    refine KV (R_len sl47 rfl) rfl ?_
    refine K_gyes rfl rfl ?_
    refine KV (R_cmp rfl rfl rfl) rfl ?_
    refine KV (R_pickF rfl rfl) rfl ?_
    refine KV (R_assign rfl) rfl ?_
    refine K_nil ?_
    refine Q_then ?_
    refine K_if rfl (fun h8 => ?_) (fun h8 => ?_)
    ·
      refine K_seq ?_
      refine K_region ?_
      refine KV (R_assign rfl) rfl ?_
      refine K_nil ?_
      refine Q_then ?_
      refine K_ret ?_
      refine Q_block_ret ?_
      refine Q_then_ret ?_
      refine results_gen (rs := [.tmp 4]) (vs := [_]) rfl ⟨rfl, trivial⟩ ?_
      rw [hunf, if_pos (.inr (by omega))]
      rfl
    ·
      have hs0 : 0 ≤ s := by omega
      have hs1 : s < rk.length := by omega
      have hs2 : s.toNat < rk.length := by omega
      obtain ⟨rb, ro, rfl, hrk⟩ := hrv.get hs2
      have hgd : rk.getD s.toNat 0 = rk[s.toNat] := by simp [List.getD, hs2]
      refine K_seq ?_
      refine K_regionD (fin := false) (R := [0, 1, 2, 3, 4, 5, 6, 7, 8, 9]) (by kernel_rfl) mixed (.cons_cons _ (List.nil_sublist _)) ?_
      refine D_val rfl rfl rfl (R_fieldAddr 1 fd30_1 rfl) ?_
      refine D_val rfl rfl rfl (R_loadO ty28 0 rfl rfl rfl rfl (fun _ => rfl) rfl) ?_
      refine D_val rfl rfl rfl (R_len sl28 rfl) ?_
      refine D_val rfl rfl rfl (R_move rfl) ?_
      refine D_val rfl rfl rfl (R_fieldAddr 0 fd30_0 rfl) ?_
      refine D_val rfl rfl rfl (R_loadO ty3 0 rfl rfl rfl rfl (fun _ => rfl) rfl) ?_
      refine D_val rfl rfl rfl (R_index sl47 ty3 rfl rfl ⟨hs0, hs1⟩) ?_
      refine D_val rfl rfl rfl (R_loadH ty3 rfl (hrk) rfl (fun _ => rfl) rfl) ?_
      refine D_val rfl rfl rfl (R_cmp rfl rfl rfl) ?_
      refine D_val rfl rfl rfl (R_assign rfl) ?_
      refine D_done ?_
      refine Q_then ?_
      refine K_if rfl (fun h19 => ?_) (fun h19 => ?_)
      ·
        refine K_seq ?_
        refine K_region ?_
        refine KV (R_assign rfl) rfl ?_
        refine K_nil ?_
        refine Q_then ?_
        refine K_ret ?_
        refine Q_block_ret ?_
        refine Q_then_ret ?_
        refine results_gen (rs := [.tmp 4]) (vs := [_]) rfl ⟨rfl, trivial⟩ ?_
        rw [hunf, if_neg (by omega), hgd, if_pos h19]
        rfl
      ·
        refine K_skip ?_
        refine Q_block ?_
        refine Q_then ?_
        refine K_seq ?_
        refine K_seq ?_
        refine K_region ?_
        refine KV (R_fieldAddr 1 fd30_1 rfl) rfl ?_
        refine KV (R_loadO ty28 0 rfl rfl rfl rfl (fun _ => rfl) rfl) rfl ?_
        refine KV (R_len sl28 rfl) rfl ?_
        refine KV (R_move rfl) rfl ?_
        refine K_nil ?_
        refine Q_then ?_
        refine K_block ?_
        refine K_loopD (G := Nat × View) [4, 6, 7, 32, 33, 34, 35, 36, 37, 38, 39, 40, 41, 42] (fun g => [(32, .int .i64 (g.1 : Int))]) (fun hl g => hl) (fun g => g.2) (fun g => (g.1 ≤ ts.length) ∧ (VLe H g.2) ∧ (Tr.nodesErrs rk ts = Tr.nodesErrs rk (ts.drop g.1))) (fun g => ts.length - g.1) (0, H) ⟨Nat.zero_le _, VLe.refl _, rfl⟩ ⟨rfl, trivial⟩ (by simp only [args0, Nat.reduceAdd, del, memN, beqN, Nat.reduceBEq, cond_true, cond_false]; rfl) rfl rfl ?_
        rintro ⟨k, V⟩ ⟨hk, hV, hcm⟩
        dsimp only at hk hV hcm
        dsimp only [List.set, List.cons_append, List.nil_append]
        refine K_seq ?_
        refine K_region ?_
        refine KV (R_cmp rfl rfl rfl) rfl ?_
        refine K_nil ?_
        refine Q_then ?_
        refine K_seq ?_
        refine K_if rfl (fun h33 => ?_) (fun h33 => ?_)
        ·
          have hlt' : k < ts.length := by omega
          have htk := Tr.sizes_take ts k hlt'
          have hle' := Tr.sizes_take_le ts (k + 1)
          have hcd := Tr.nodesErrs_cons (rk := rk) hlt'
          have ha' := ha (by intro e; subst e; simp at hlt')
          subst ha'
          obtain ⟨y0, y1, y2, y3, hcs⟩ := (hrec k hlt').shape
          have hreck := (hrec k hlt').mono hV
          rw [hcs] at hreck
          refine K_skip ?_
          refine Q_then ?_
          refine K_seq ?_
          refine K_block ?_
          refine K_seq ?_
          refine K_region ?_
          refine KV (R_indexN sl28 ty30 rfl rfl (by omega)) rfl ?_
          refine KV (R_loadH ty30 rfl (hcs ▸ (hA k hlt').2.mono hV) rfl (fun e => by cases e) rfl) rfl ?_
          refine KA (A_alloc z30) rfl fun b6 => ?_
          refine K_store ty30 0 rfl rfl rfl rfl rfl rfl ?_
          refine K_nil ?_
          refine Q_then ?_
          refine K_seq ?_
          refine K_region ?_
          refine KV (R_move rfl) rfl ?_
          refine KV (R_loadO ty30 0 rfl rfl rfl rfl (fun e => by cases e) rfl) rfl ?_
          refine K_call c115 rfl rfl (ih ts[k] V _ (by omega) (by omega) hreck (hrv.mono hV)) ?_
          rintro _ V1 hle1 rfl
          refine KV (R_assign rfl) rfl ?_
          refine K_nil ?_
          refine Q_then ?_
          refine K_seq ?_
          refine K_region ?_
          refine KV (R_move rfl) rfl ?_
          refine KV (R_cmp rfl rfl rfl) rfl ?_
          refine K_nil ?_
          refine Q_then ?_
          refine K_if rfl (fun h40 => ?_) (fun h40 => ?_)
          ·
            refine K_seq ?_
            refine K_region ?_
            refine KV (R_move rfl) rfl ?_
            refine KV (R_assign rfl) rfl ?_
            refine K_nil ?_
            refine Q_then ?_
            refine K_ret ?_
            refine Q_block_ret ?_
            refine Q_then_ret ?_
            refine Q_then_ret ?_
            refine Q_block_ret ?_
            refine Q_then_ret ?_
            refine results_gen (rs := [.tmp 4]) (vs := [_]) rfl ⟨rfl, trivial⟩ ?_
            rw [hunf, if_neg (by omega), hgd, if_neg h19, hcm, hcd, if_pos h40]
            rfl
          ·
            refine K_skip ?_
            refine Q_block ?_
            refine Q_then ?_
            refine K_region ?_
            refine KV (R_add rfl rfl (by omega)) rfl ?_
            refine KV (R_move rfl) rfl ?_
            refine K_nil ?_
            refine KQ_sel [1] rfl ?_
            refine Q_nextD (k + 1, V1) ⟨hlt', hV.trans hle1, by rw [hcm, hcd, if_neg h40]⟩ (by (try dsimp only); omega) ⟨rfl, trivial⟩ rfl rfl rfl
        ·
          have hk' : k = ts.length := by omega
          subst hk'
          refine K_exit ?_
          refine Q_then_exit ?_
          refine Q_then_exit ?_
          refine Q_block_exit ?_
          refine Q_then ?_
          refine K_seq ?_
          refine K_region ?_
          refine KV (R_assign rfl) rfl ?_
          refine K_nil ?_
          refine Q_then ?_
          refine K_ret ?_
          refine results_gen (rs := [.tmp 4]) (vs := [_]) rfl ⟨rfl, trivial⟩ ?_
          rw [hunf, if_neg (by omega), hgd, if_neg h19, hcm, List.drop_length]
          rfl

theorem psize_spec : ∀ m t H cs, t.size ≤ m → m ≤ 1099511627776 → RepT H t cs → Sat Tryz.prog F118 #[.agg cs.toArray] H (fun v _ => v = .int .i64 (t.size : Int)) := by
  intro m
  induction m with
  | zero => intro t H cs h; have := t.size_pos; omega
  | succ m ih =>
  intro t H cs hm hb hr
  cases hr with | mk s ts a cap b off cs' hs ha hA hrec =>
  have hsz : (Tr.node s ts).size = 1 + Tr.sizes ts := rfl
  have hln := Tr.length_le_sizes ts
  have hdl := Tr.deeps_le ts
  refine enterO (n := 19) (args := [.agg #[.int .i64 s, .slice a ts.length cap]]) Tryz.func106 rfl rfl rfl fun w0 => ?_
  refine K_seq ?_
  refine K_region ?_
  refine KA (A_box rfl) rfl fun b1 => ?_
  refine KV (R_assign rfl) rfl ?_
  refine K_nil ?_
  refine Q_then ?_
  refine K_seq ?_
  refine K_region ?_
  refine KV (R_assign rfl) rfl ?_
  refine K_nil ?_
  refine Q_then ?_
  refine K_seq ?_
  refine K_seq ?_
  refine K_region ?_
  refine KV (R_fieldAddr 1 fd30_1 rfl) rfl ?_
  refine KV (R_loadO ty28 0 rfl rfl rfl rfl (fun _ => rfl) rfl) rfl ?_
  refine KV (R_len sl28 rfl) rfl ?_
  refine KV (R_move rfl) rfl ?_
  refine K_nil ?_
  refine Q_then ?_
  refine K_block ?_
  refine K_loopD (G := Nat × View) [3, 5, 9, 10, 11, 12, 13, 14, 15, 16, 17] (fun g => [(9, .int .i64 (g.1 : Int)), (3, .int .i64 (1 + (Tr.sizes (ts.take g.1) : Int)))]) (fun hl g => hl) (fun g => g.2) (fun g => (g.1 ≤ ts.length) ∧ (VLe H g.2)) (fun g => ts.length - g.1) (0, H) ⟨Nat.zero_le _, VLe.refl _⟩ ⟨rfl, rfl, trivial⟩ (by simp only [args0, Nat.reduceAdd, del, memN, beqN, Nat.reduceBEq, cond_true, cond_false]; rfl) rfl rfl ?_
  rintro ⟨k, V⟩ ⟨hk, hV⟩
  dsimp only at hk hV
  dsimp only [List.set, List.cons_append, List.nil_append]
  refine K_seq ?_
  refine K_region ?_
  refine KV (R_cmp rfl rfl rfl) rfl ?_
  refine K_nil ?_
  refine Q_then ?_
  refine K_seq ?_
  refine K_if rfl (fun h10 => ?_) (fun h10 => ?_)
  ·
    have hlt' : k < ts.length := by omega
    have htk := Tr.sizes_take ts k hlt'
    have hle' := Tr.sizes_take_le ts (k + 1)
    have hdk := Tr.deeps_take ts k hlt'
    have hdk2 := Tr.deeps_append (ts.take (k + 1)) (ts.drop (k + 1))
    rw [List.take_append_drop] at hdk2
    have ha' := ha (by intro e; subst e; simp at hlt')
    subst ha'
    obtain ⟨y0, y1, y2, y3, hcs⟩ := (hrec k hlt').shape
    have hreck := (hrec k hlt').mono hV
    rw [hcs] at hreck
    refine K_skip ?_
    refine Q_then ?_
    refine K_seq ?_
    refine K_block ?_
    refine K_seq ?_
    refine K_region ?_
    refine KV (R_indexN sl28 ty30 rfl rfl (by omega)) rfl ?_
    refine KV (R_loadH ty30 rfl (hcs ▸ (hA k hlt').2.mono hV) rfl (fun e => by cases e) rfl) rfl ?_
    refine KA (A_alloc z30) rfl fun b5 => ?_
    refine K_store ty30 0 rfl rfl rfl rfl rfl rfl ?_
    refine K_nil ?_
    refine Q_then ?_
    refine K_region ?_
    refine KV (R_move rfl) rfl ?_
    refine KV (R_loadO ty30 0 rfl rfl rfl rfl (fun e => by cases e) rfl) rfl ?_
    refine K_call c118 rfl rfl (ih ts[k] V _ (by omega) (by omega) hreck) ?_
    rintro _ V1 hle1 rfl
    refine KV (R_add rfl rfl (by omega)) rfl ?_
    refine KV (R_assign rfl) rfl ?_
    refine K_nil ?_
    refine Q_block ?_
    refine Q_then ?_
    refine K_region ?_
    refine KV (R_add rfl rfl (by omega)) rfl ?_
    refine KV (R_move rfl) rfl ?_
    refine K_nil ?_
    refine KQ_sel [1] rfl ?_
    refine Q_nextD (k + 1, V1) ⟨hlt', hV.trans hle1⟩ (by (try dsimp only); omega) ⟨rfl, congrArg (fun z => some (Value.int .i64 z)) (by dsimp only; omega), trivial⟩ rfl rfl rfl
  ·
    have hk' : k = ts.length := by omega
    subst hk'
    rw [List.take_length]
    refine K_exit ?_
    refine Q_then_exit ?_
    refine Q_then_exit ?_
    refine Q_block_exit ?_
    refine Q_then ?_
    refine K_seq ?_
    refine K_region ?_
    refine KV (R_move rfl) rfl ?_
    refine KV (R_assign rfl) rfl ?_
    refine K_nil ?_
    refine Q_then ?_
    refine K_ret ?_
    refine results_gen (rs := [.tmp 2]) (vs := [_]) rfl ⟨rfl, trivial⟩ ?_
    simp [tupV, Tr.size]

theorem pdepth_spec : ∀ m t H cs, t.size ≤ m → m ≤ 1099511627776 → RepT H t cs → Sat Tryz.prog F119 #[.agg cs.toArray] H (fun v _ => v = .int .i64 (t.deep : Int)) := by
  intro m
  induction m with
  | zero => intro t H cs h; have := t.size_pos; omega
  | succ m ih =>
  intro t H cs hm hb hr
  cases hr with | mk s ts a cap b off cs' hs ha hA hrec =>
  have hsz : (Tr.node s ts).size = 1 + Tr.sizes ts := rfl
  have hln := Tr.length_le_sizes ts
  have hdl := Tr.deeps_le ts
  refine enterO (n := 20) (args := [.agg #[.int .i64 s, .slice a ts.length cap]]) Tryz.func107 rfl rfl rfl fun w0 => ?_
  refine K_seq ?_
  refine K_region ?_
  refine KA (A_box rfl) rfl fun b1 => ?_
  refine KV (R_assign rfl) rfl ?_
  refine K_nil ?_
  refine Q_then ?_
  refine K_seq ?_
  refine K_region ?_
  refine KV (R_assign rfl) rfl ?_
  refine K_nil ?_
  refine Q_then ?_
  refine K_seq ?_
  refine K_seq ?_
  refine K_region ?_
  refine KV (R_fieldAddr 1 fd30_1 rfl) rfl ?_
  refine KV (R_loadO ty28 0 rfl rfl rfl rfl (fun _ => rfl) rfl) rfl ?_
  refine KV (R_len sl28 rfl) rfl ?_
  refine KV (R_move rfl) rfl ?_
  refine K_nil ?_
  refine Q_then ?_
  refine K_block ?_
  refine K_loopD (G := Nat × View) [3, 5, 9, 10, 11, 12, 13, 14, 15, 16, 17] (fun g => [(9, .int .i64 (g.1 : Int)), (3, .int .i64 (Tr.deeps (ts.take g.1) : Int))]) (fun hl g => hl) (fun g => g.2) (fun g => (g.1 ≤ ts.length) ∧ (VLe H g.2)) (fun g => ts.length - g.1) (0, H) ⟨Nat.zero_le _, VLe.refl _⟩ ⟨rfl, rfl, trivial⟩ (by simp only [args0, Nat.reduceAdd, del, memN, beqN, Nat.reduceBEq, cond_true, cond_false]; rfl) rfl rfl ?_
  rintro ⟨k, V⟩ ⟨hk, hV⟩
  dsimp only at hk hV
  dsimp only [List.set, List.cons_append, List.nil_append]
  refine K_seq ?_
  refine K_region ?_
  refine KV (R_cmp rfl rfl rfl) rfl ?_
  refine K_nil ?_
  refine Q_then ?_
  refine K_seq ?_
  refine K_if rfl (fun h10 => ?_) (fun h10 => ?_)
  ·
    have hlt' : k < ts.length := by omega
    have htk := Tr.sizes_take ts k hlt'
    have hle' := Tr.sizes_take_le ts (k + 1)
    have hdk := Tr.deeps_take ts k hlt'
    have hdk2 := Tr.deeps_append (ts.take (k + 1)) (ts.drop (k + 1))
    rw [List.take_append_drop] at hdk2
    have ha' := ha (by intro e; subst e; simp at hlt')
    subst ha'
    obtain ⟨y0, y1, y2, y3, hcs⟩ := (hrec k hlt').shape
    have hreck := (hrec k hlt').mono hV
    rw [hcs] at hreck
    refine K_skip ?_
    refine Q_then ?_
    refine K_seq ?_
    refine K_block ?_
    refine K_seq ?_
    refine K_region ?_
    refine KV (R_indexN sl28 ty30 rfl rfl (by omega)) rfl ?_
    refine KV (R_loadH ty30 rfl (hcs ▸ (hA k hlt').2.mono hV) rfl (fun e => by cases e) rfl) rfl ?_
    refine KA (A_alloc z30) rfl fun b5 => ?_
    refine K_store ty30 0 rfl rfl rfl rfl rfl rfl ?_
    refine K_nil ?_
    refine Q_then ?_
    refine K_region ?_
    refine KV (R_move rfl) rfl ?_
    refine KV (R_loadO ty30 0 rfl rfl rfl rfl (fun e => by cases e) rfl) rfl ?_
    refine K_call c119 rfl rfl (ih ts[k] V _ (by omega) (by omega) hreck) ?_
    rintro _ V1 hle1 rfl
    refine KV (R_max2 rfl rfl) rfl ?_
    refine KV (R_assign rfl) rfl ?_
    refine K_nil ?_
    refine Q_block ?_
    refine Q_then ?_
    refine K_region ?_
    refine KV (R_add rfl rfl (by omega)) rfl ?_
    refine KV (R_move rfl) rfl ?_
    refine K_nil ?_
    refine KQ_sel [1] rfl ?_
    refine Q_nextD (k + 1, V1) ⟨hlt', hV.trans hle1⟩ (by (try dsimp only); omega) ⟨rfl, congrArg (fun z => some (Value.int .i64 z)) (by dsimp only; split <;> omega), trivial⟩ rfl rfl rfl
  ·
    have hk' : k = ts.length := by omega
    subst hk'
    rw [List.take_length]
    refine K_exit ?_
    refine Q_then_exit ?_
    refine Q_then_exit ?_
    refine Q_block_exit ?_
    refine Q_then ?_
    refine K_seq ?_
    refine K_region ?_
    refine KV (R_move rfl) rfl ?_
    refine KV (R_add rfl rfl (by omega)) rfl ?_
    refine KV (R_assign rfl) rfl ?_
    refine K_nil ?_
    refine Q_then ?_
    refine K_ret ?_
    refine results_gen (rs := [.tmp 2]) (vs := [_]) rfl ⟨rfl, trivial⟩ ?_
    simp [tupV, Tr.deep]

theorem psmall_spec (t : Tr) (H : View) (cs : List Value) (hb : t.size ≤ 1073741824) (hr : RepT H t cs) : Sat Tryz.prog F114 #[.agg cs.toArray] H (fun r _ => r = .int .i64 (if (4096 : Int) < t.size then 2 else if (256 : Int) < t.deep then 16 else 0)) := by
  obtain ⟨x0, x1, x2, x3, rfl⟩ := hr.shape
  refine enterO (n := 11) (args := [.agg #[.int .i64 x0, .slice x1 x2 x3]]) Tryz.func75 rfl rfl rfl fun w0 => ?_
  refine K_seq ?_
  refine K_region ?_
  refine KA (A_box rfl) rfl fun b1 => ?_
  refine KV (R_assign rfl) rfl ?_
  refine K_nil ?_
  refine Q_then ?_
  refine K_seq ?_
  refine K_block ?_
  refine K_seq ?_
  refine K_region ?_
  refine KV (R_loadO ty30 0 rfl rfl rfl rfl (fun e => by cases e) rfl) rfl ?_
  refine K_call c118 rfl rfl (psize_spec t.size t H _ (Nat.le_refl _) (by omega) hr) ?_
  rintro _ V1 hv1 rfl
  refine KV (R_cmp rfl rfl rfl) rfl ?_
  refine KV (R_assign rfl) rfl ?_
  refine K_nil ?_
  refine Q_then ?_
  refine K_if rfl (fun h3 => ?_) (fun h3 => ?_)
  ·
    refine K_seq ?_
    refine K_region ?_
    refine KV (R_assign rfl) rfl ?_
    refine K_nil ?_
    refine Q_then ?_
    refine K_ret ?_
    refine Q_block_ret ?_
    refine Q_then_ret ?_
    refine results_gen (rs := [.tmp 2]) (vs := [_]) rfl ⟨rfl, trivial⟩ ?_
    rw [if_pos h3]
    rfl
  ·
    refine K_seq ?_
    refine K_region ?_
    refine KV (R_loadO ty30 0 rfl rfl rfl rfl (fun e => by cases e) rfl) rfl ?_
    refine K_call c119 rfl rfl (pdepth_spec t.size t V1 _ (Nat.le_refl _) (by omega) (hr.mono hv1)) ?_
    rintro _ V2 hv2 rfl
    refine KV (R_cmp rfl rfl rfl) rfl ?_
    refine KV (R_assign rfl) rfl ?_
    refine K_nil ?_
    refine Q_then ?_
    refine K_if rfl (fun h7 => ?_) (fun h7 => ?_)
    ·
      refine K_seq ?_
      refine K_region ?_
      refine KV (R_assign rfl) rfl ?_
      refine K_nil ?_
      refine Q_then ?_
      refine K_ret ?_
      refine Q_block_ret ?_
      refine Q_then_ret ?_
      refine results_gen (rs := [.tmp 2]) (vs := [_]) rfl ⟨rfl, trivial⟩ ?_
      rw [if_neg h3, if_pos h7]
      rfl
    ·
      refine K_skip ?_
      refine Q_block ?_
      refine Q_then ?_
      refine K_seq ?_
      refine K_region ?_
      refine KV (R_assign rfl) rfl ?_
      refine K_nil ?_
      refine Q_then ?_
      refine K_ret ?_
      refine results_gen (rs := [.tmp 2]) (vs := [_]) rfl ⟨rfl, trivial⟩ ?_
      rw [if_neg h3, if_neg h7]
      rfl

theorem pvalid_spec (rk : List Int) (rv : Value) (t : Tr) (H : View) (cs : List Value) (hrkl : rk.length ≤ 1048576) (hb : t.size ≤ 1073741824) (hr : RepT H t cs) (hrv : SI H rv rk) : Sat Tryz.prog F98 #[rv, .agg cs.toArray] H (fun r _ => r = .int .i64 (validErr rk t)) := by
  obtain ⟨x0, x1, x2, x3, rfl⟩ := hr.shape
  obtain ⟨va, vc, rfl⟩ := hrv.shape
  refine enterO (n := 20) (args := [.slice va rk.length vc, .agg #[.int .i64 x0, .slice x1 x2 x3]]) Tryz.func35 rfl rfl rfl fun w0 => ?_
  refine K_seq ?_
  refine K_region ?_
  refine KA (A_box rfl) rfl fun b3 => ?_
  refine KV (R_assign rfl) rfl ?_
  refine K_nil ?_
  refine Q_then ?_
  refine K_seq ?_
  refine K_seq ?_
  refine K_region ?_
  refine KV (R_move rfl) rfl ?_
  refine K_call c72 rfl rfl (acheck_spec rk _ H hrv (by omega)) ?_
  rintro _ V1 hv1 rfl
  refine KV (R_assign rfl) rfl ?_
  refine K_nil ?_
  refine Q_then ?_
  refine K_seq ?_
  refine K_region ?_
  refine KV (R_move rfl) rfl ?_
  refine KV (R_cmp rfl rfl rfl) rfl ?_
  refine K_nil ?_
  refine Q_then ?_
  refine K_if rfl (fun h10 => ?_) (fun h10 => ?_)
  ·
    refine K_seq ?_
    refine K_region ?_
    refine KV (R_move rfl) rfl ?_
    refine KV (R_assign rfl) rfl ?_
    refine K_nil ?_
    refine Q_then ?_
    refine K_ret ?_
    refine Q_then_ret ?_
    refine results_gen (rs := [.tmp 4]) (vs := [_]) rfl ⟨rfl, trivial⟩ ?_
    simp only [tupV, validErr]
    rw [if_pos h10]
  ·
    refine K_skip ?_
    refine Q_then ?_
    refine K_seq ?_
    refine K_seq ?_
    refine K_region ?_
    refine KV (R_loadO ty30 0 rfl rfl rfl rfl (fun e => by cases e) rfl) rfl ?_
    refine K_call c114 rfl rfl (psmall_spec t V1 _ hb (hr.mono hv1)) ?_
    rintro _ V2 hv2 rfl
    refine KV (R_assign rfl) rfl ?_
    refine K_nil ?_
    refine Q_then ?_
    refine K_seq ?_
    refine K_region ?_
    refine KV (R_move rfl) rfl ?_
    refine KV (R_cmp rfl rfl rfl) rfl ?_
    refine K_nil ?_
    refine Q_then ?_
    refine K_if rfl (fun h15 => ?_) (fun h15 => ?_)
    ·
      refine K_seq ?_
      refine K_region ?_
      refine KV (R_move rfl) rfl ?_
      refine KV (R_assign rfl) rfl ?_
      refine K_nil ?_
      refine Q_then ?_
      refine K_ret ?_
      refine Q_then_ret ?_
      refine results_gen (rs := [.tmp 4]) (vs := [_]) rfl ⟨rfl, trivial⟩ ?_
      simp only [tupV, validErr]
      rw [if_neg h10]
      refine congrArg (Value.int .i64) ?_
      split
      · rfl
      · split
        · rfl
        · rename_i g1 g2; rw [if_neg g1, if_neg g2] at h15; exact absurd rfl h15
    ·
      refine K_skip ?_
      refine Q_then ?_
      refine K_seq ?_
      refine K_region ?_
      refine KV (R_move rfl) rfl ?_
      refine KV (R_loadO ty30 0 rfl rfl rfl rfl (fun e => by cases e) rfl) rfl ?_
      refine K_call c115 rfl rfl (right_spec rk _ (by omega) t.size t V2 _ (Nat.le_refl _) (by omega) (hr.mono (hv1.trans hv2)) (hrv.mono (hv1.trans hv2))) ?_
      rintro _ V3 hv3 rfl
      refine KV (R_assign rfl) rfl ?_
      refine K_nil ?_
      refine Q_then ?_
      refine K_ret ?_
      refine results_gen (rs := [.tmp 4]) (vs := [_]) rfl ⟨rfl, trivial⟩ ?_
      simp only [tupV, validErr]
      rw [if_neg h10]
      refine congrArg (Value.int .i64) ?_
      split
      · rename_i g1; rw [if_pos g1] at h15; exact absurd h15 (by decide)
      · split
        · rename_i g1 g2; rw [if_neg g1, if_pos g2] at h15; exact absurd h15 (by decide)
        · rfl

theorem rvalid_spec (rk : List Int) (rv : Value) (t : Tr) (H : View) (cs : List Value) (hrkl : rk.length ≤ 1048576) (hb : t.size ≤ 1073741824) (hr : RepT H t cs) (hrv : SI H rv rk) : Sat Tryz.prog F39 #[rv, .agg cs.toArray] H (fun r _ => r = .int .i64 (validErr rk t)) := by
  obtain ⟨x0, x1, x2, x3, rfl⟩ := hr.shape
  obtain ⟨va, vc, rfl⟩ := hrv.shape
  refine enterO (n := 20) (args := [.slice va rk.length vc, .agg #[.int .i64 x0, .slice x1 x2 x3]]) Tryz.func15 rfl rfl rfl fun w0 => ?_
  refine K_seq ?_
  refine K_region ?_
  refine KA (A_box rfl) rfl fun b3 => ?_
  refine KV (R_assign rfl) rfl ?_
  refine K_nil ?_
  refine Q_then ?_
  refine K_seq ?_
  refine K_seq ?_
  refine K_region ?_
  refine KV (R_move rfl) rfl ?_
  refine K_call c36 rfl rfl (rcheck31_spec rk _ H hrv (by omega)) ?_
  rintro _ V1 hv1 rfl
  refine KV (R_assign rfl) rfl ?_
  refine K_nil ?_
  refine Q_then ?_
  refine K_seq ?_
  refine K_region ?_
  refine KV (R_move rfl) rfl ?_
  refine KV (R_cmp rfl rfl rfl) rfl ?_
  refine K_nil ?_
  refine Q_then ?_
  refine K_if rfl (fun h9 => ?_) (fun h9 => ?_)
  ·
    refine K_seq ?_
    refine K_region ?_
    refine KV (R_move rfl) rfl ?_
    refine KV (R_assign rfl) rfl ?_
    refine K_nil ?_
    refine Q_then ?_
    refine K_ret ?_
    refine Q_then_ret ?_
    refine results_gen (rs := [.tmp 4]) (vs := [_]) rfl ⟨rfl, trivial⟩ ?_
    simp only [tupV, validErr]
    rw [if_pos h9]
  ·
    refine K_skip ?_
    refine Q_then ?_
    refine K_seq ?_
    refine K_seq ?_
    refine K_region ?_
    refine KV (R_loadO ty24 0 rfl rfl rfl rfl (fun e => by cases e) rfl) rfl ?_
    refine K_call c8 rfl rfl (size_spec t.size t V1 _ (Nat.le_refl _) (by omega) (hr.mono hv1)) ?_
    rintro _ V2 hv2 rfl
    refine KV (R_cmp rfl rfl rfl) rfl ?_
    refine K_nil ?_
    refine Q_then ?_
    refine K_if rfl (fun h13 => ?_) (fun h13 => ?_)
    ·
      refine K_seq ?_
      refine K_region ?_
      refine KV (R_assign rfl) rfl ?_
      refine K_nil ?_
      refine Q_then ?_
      refine K_ret ?_
      refine Q_then_ret ?_
      refine results_gen (rs := [.tmp 4]) (vs := [_]) rfl ⟨rfl, trivial⟩ ?_
      simp only [tupV, validErr]
      rw [if_neg h9, if_pos h13]
    ·
      refine K_skip ?_
      refine Q_then ?_
      refine K_seq ?_
      refine K_seq ?_
      refine K_region ?_
      refine KV (R_loadO ty24 0 rfl rfl rfl rfl (fun e => by cases e) rfl) rfl ?_
      refine K_call c9 rfl rfl (deep_spec t.size t V2 _ (Nat.le_refl _) (by omega) (hr.mono (hv1.trans hv2))) ?_
      rintro _ V3 hv3 rfl
      refine KV (R_cmp rfl rfl rfl) rfl ?_
      refine K_nil ?_
      refine Q_then ?_
      refine K_if rfl (fun h16 => ?_) (fun h16 => ?_)
      ·
        refine K_seq ?_
        refine K_region ?_
        refine KV (R_assign rfl) rfl ?_
        refine K_nil ?_
        refine Q_then ?_
        refine K_ret ?_
        refine Q_then_ret ?_
        refine results_gen (rs := [.tmp 4]) (vs := [_]) rfl ⟨rfl, trivial⟩ ?_
        simp only [tupV, validErr]
        rw [if_neg h9, if_neg h13, if_pos h16]
      ·
        refine K_skip ?_
        refine Q_then ?_
        refine K_seq ?_
        refine K_region ?_
        refine KV (R_move rfl) rfl ?_
        refine KV (R_loadO ty24 0 rfl rfl rfl rfl (fun e => by cases e) rfl) rfl ?_
        refine K_call c75 rfl rfl (rnodes_spec rk _ (by omega) t.size t V3 _ (Nat.le_refl _) (by omega) (hr.mono (hv1.trans (hv2.trans hv3))) (hrv.mono (hv1.trans (hv2.trans hv3)))) ?_
        rintro _ V4 hv4 rfl
        refine KV (R_assign rfl) rfl ?_
        refine K_nil ?_
        refine Q_then ?_
        refine K_ret ?_
        refine results_gen (rs := [.tmp 4]) (vs := [_]) rfl ⟨rfl, trivial⟩ ?_
        simp only [tupV, validErr]
        rw [if_neg h9, if_neg h13, if_neg h16]
end Go.Proofs.X

namespace Go.Proofs.X
open Go Pal Go.Proofs
attribute [local irreducible] Pal.KO Pal.KC Pal.KQ Pal.KD
theorem c63 : callable Tryz.prog F63 = true := by kernel_rfl
theorem c98 : callable Tryz.prog F98 = true := by kernel_rfl
theorem maps_spec (ls src dst : List Int) (v1 v2 v3 : Value) (H : View) (h1 : SI H v1 ls) (h2 : SI H v2 src) (h3 : SI H v3 dst) (hb1 : ls.length ≤ 1099511627776) : Sat Tryz.prog F37 #[v1, v2, v3] H (fun r _ => r = .bool (mapsM ls src dst)) := by
  obtain ⟨a1, k1, rfl⟩ := h1.shape
  obtain ⟨a2, k2, rfl⟩ := h2.shape
  obtain ⟨a3, k3, rfl⟩ := h3.shape
  refine enterO (n := 47) (args := [.slice a1 ls.length k1, .slice a2 src.length k2, .slice a3 dst.length k3]) Tryz.func14 rfl rfl rfl fun w0 => ?_
  refine K_seq ?_
  refine K_region ?_
  refine KV (R_assign rfl) rfl ?_
  refine K_nil ?_
  refine Q_then ?_
  refine K_seq ?_
  refine K_seq ?_
  refine K_region ?_
  refine KV (R_move rfl) rfl ?_
  refine KV (R_len sl25 rfl) rfl ?_
  refine KV (R_move rfl) rfl ?_
  refine KV (R_len sl25 rfl) rfl ?_
  refine KV (R_cmp rfl rfl rfl) rfl ?_
  refine K_nil ?_
  refine Q_then ?_
  refine K_if rfl (fun h12 => ?_) (fun h12 => ?_)
  ·
    refine K_seq ?_
    refine K_region ?_
    refine KV (R_assign rfl) rfl ?_
    refine K_nil ?_
    refine Q_then ?_
    refine K_ret ?_
    refine Q_then_ret ?_
    refine results_gen (rs := [.tmp 6]) (vs := [_]) rfl ⟨rfl, trivial⟩ ?_
    refine congrArg Value.bool (Eq.symm ?_)
    first
      | exact mapsM_iff.2 ⟨by omega, fun j h h2 => hyes j h h2 (by omega)⟩
      | (rw [Bool.eq_false_iff]; intro hm; obtain ⟨g1, g2⟩ := mapsM_iff.1 hm; first | omega | (have g3 := g2 k hk' hk2; first | omega | (rw [hgd] at g3; omega)))
  ·
    refine K_skip ?_
    refine Q_then ?_
    refine K_seq ?_
    refine K_seq ?_
    refine K_region ?_
    refine KV (R_assign rfl) rfl ?_
    refine K_nil ?_
    refine Q_then ?_
    refine K_block ?_
    refine K_loopD (G := Nat) [6, 7, 13, 14, 15, 16, 17, 18, 19, 20, 21, 22, 23, 24, 25, 26, 27, 28, 29, 30, 31, 32, 33, 34, 35, 36, 37, 38, 39, 40, 41, 42, 43, 44, 45, 46] (fun g => [(7, .int .i64 (g : Int))]) (fun hl g => hl) (fun g => H) (fun g => (g ≤ ls.length) ∧ (∀ j (h : j < ls.length) (h2 : j < src.length), j < g → (0 ≤ ls[j] ∧ ls[j] < dst.length) ∧ dst.getD ls[j].toNat 0 = src[j])) (fun g => ls.length - g) 0 ⟨Nat.zero_le _, fun j _ _ h => by simp at h⟩ ⟨rfl, trivial⟩ (by simp only [args0, Nat.reduceAdd, del, memN, beqN, Nat.reduceBEq, cond_true, cond_false]; rfl) rfl rfl ?_
    rintro k ⟨hk, hyes⟩
    try dsimp only at hk
    try dsimp only at hyes
    dsimp only [List.set, List.cons_append, List.nil_append]
    refine K_seq ?_
    refine K_seq ?_
    refine K_region ?_
    refine KV (R_move rfl) rfl ?_
    refine KV (R_move rfl) rfl ?_
    refine KV (R_len sl25 rfl) rfl ?_
    refine KV (R_cmp rfl rfl rfl) rfl ?_
    refine K_nil ?_
    refine Q_then ?_
    refine K_if rfl (fun h16 => ?_) (fun h16 => ?_)
    ·
      have hk' : k < ls.length := by omega
      have hk2 : k < src.length := by omega
      obtain ⟨tb, to_, hte, hta⟩ := h1.get hk'
      cases hte
      obtain ⟨sb, so, hse, hsx⟩ := h2.get hk2
      cases hse
      refine K_skip ?_
      refine Q_then ?_
      refine K_seq ?_
      refine K_block ?_
      refine K_seq ?_
      refine K_regionD (fin := false) (R := [0, 1, 2, 3, 4, 5, 6, 7, 8, 9, 10, 11, 12, 13, 14, 15, 16, 17, 18, 19, 20, 21, 22, 23, 24, 25, 26, 27]) (by kernel_rfl) mixed (List.nil_sublist _) ?_
      refine D_val rfl rfl rfl (R_move rfl) ?_
      refine D_val rfl rfl rfl (R_move rfl) ?_
      refine D_val rfl rfl rfl (R_indexN sl25 ty3 rfl rfl (by omega)) ?_
      refine D_val rfl rfl rfl (R_loadH ty3 rfl (hta) rfl (fun _ => rfl) rfl) ?_
      refine D_val rfl rfl rfl (R_cmp rfl rfl rfl) ?_
      refine D_val rfl rfl rfl (R_move rfl) ?_
      refine D_split ?_ ?_
      ·
        intro h24
        refine D_skip rfl rfl ?_
        refine D_skip rfl rfl ?_
        refine D_skip rfl rfl ?_
        refine D_skip rfl rfl ?_
        refine D_skip rfl rfl ?_
        refine D_skip rfl rfl ?_
        refine D_skip rfl rfl ?_
        refine D_val rfl rfl rfl (R_pickT rfl rfl) ?_
        refine D_val rfl rfl rfl (R_move rfl) ?_
        refine D_skip rfl rfl ?_
        refine D_skip rfl rfl ?_
        refine D_skip rfl rfl ?_
        refine D_skip rfl rfl ?_
        refine D_skip rfl rfl ?_
        refine D_skip rfl rfl ?_
        refine D_skip rfl rfl ?_
        refine D_skip rfl rfl ?_
        refine D_skip rfl rfl ?_
        refine D_skip rfl rfl ?_
        refine D_skip rfl rfl ?_
        refine D_skip rfl rfl ?_
        refine D_val rfl rfl rfl (R_pickT rfl rfl) ?_
        refine D_done ?_
        refine Q_then ?_
        refine K_ifT rfl ?_
        refine K_seq ?_
        refine K_region ?_
        refine KV (R_assign rfl) rfl ?_
        refine K_nil ?_
        refine Q_then ?_
        refine K_ret ?_
        refine Q_block_ret ?_
        refine Q_then_ret ?_
        refine Q_then_ret ?_
        refine Q_block_ret ?_
        refine Q_then_ret ?_
        refine results_gen (rs := [.tmp 6]) (vs := [_]) rfl ⟨rfl, trivial⟩ ?_
        refine congrArg Value.bool (Eq.symm ?_)
        first
          | exact mapsM_iff.2 ⟨by omega, fun j h h2 => hyes j h h2 (by omega)⟩
          | (rw [Bool.eq_false_iff]; intro hm; obtain ⟨g1, g2⟩ := mapsM_iff.1 hm; first | omega | (have g3 := g2 k hk' hk2; first | omega | (rw [hgd] at g3; omega)))
      ·
        intro h24
        refine D_val rfl rfl rfl (R_move rfl) ?_
        refine D_val rfl rfl rfl (R_move rfl) ?_
        refine D_val rfl rfl rfl (R_indexN sl25 ty3 rfl rfl (by omega)) ?_
        refine D_val rfl rfl rfl (R_loadH ty3 rfl (hta) rfl (fun _ => rfl) rfl) ?_
        refine D_val rfl rfl rfl (R_move rfl) ?_
        refine D_val rfl rfl rfl (R_len sl25 rfl) ?_
        refine D_val rfl rfl rfl (R_cmp rfl rfl rfl) ?_
        refine D_val rfl rfl rfl (R_pickF rfl rfl) ?_
        refine D_val rfl rfl rfl (R_move rfl) ?_
        refine D_split ?_ ?_
        ·
          intro h33
          refine D_skip rfl rfl ?_
          refine D_skip rfl rfl ?_
          refine D_skip rfl rfl ?_
          refine D_skip rfl rfl ?_
          refine D_skip rfl rfl ?_
          refine D_skip rfl rfl ?_
          refine D_skip rfl rfl ?_
          refine D_skip rfl rfl ?_
          refine D_skip rfl rfl ?_
          refine D_skip rfl rfl ?_
          refine D_skip rfl rfl ?_
          refine D_skip rfl rfl ?_
          refine D_val rfl rfl rfl (R_pickT rfl rfl) ?_
          refine D_done ?_
          refine Q_then ?_
          refine K_ifT rfl ?_
          refine K_seq ?_
          refine K_region ?_
          refine KV (R_assign rfl) rfl ?_
          refine K_nil ?_
          refine Q_then ?_
          refine K_ret ?_
          refine Q_block_ret ?_
          refine Q_then_ret ?_
          refine Q_then_ret ?_
          refine Q_block_ret ?_
          refine Q_then_ret ?_
          refine results_gen (rs := [.tmp 6]) (vs := [_]) rfl ⟨rfl, trivial⟩ ?_
          refine congrArg Value.bool (Eq.symm ?_)
          first
            | exact mapsM_iff.2 ⟨by omega, fun j h h2 => hyes j h h2 (by omega)⟩
            | (rw [Bool.eq_false_iff]; intro hm; obtain ⟨g1, g2⟩ := mapsM_iff.1 hm; first | omega | (have g3 := g2 k hk' hk2; first | omega | (rw [hgd] at g3; omega)))
        ·
          intro h33
          have hx1 : ls[k].toNat < dst.length := by omega
          obtain ⟨db, do_, hde, hdx⟩ := h3.get hx1
          cases hde
          have hgd : dst.getD ls[k].toNat 0 = dst[ls[k].toNat] := by simp [List.getD, hx1]
          refine D_val rfl rfl rfl (R_move rfl) ?_
          refine D_val rfl rfl rfl (R_move rfl) ?_
          refine D_val rfl rfl rfl (R_move rfl) ?_
          refine D_val rfl rfl rfl (R_indexN sl25 ty3 rfl rfl (by omega)) ?_
          refine D_val rfl rfl rfl (R_loadH ty3 rfl (hta) rfl (fun _ => rfl) rfl) ?_
          refine D_val rfl rfl rfl (R_index sl25 ty3 rfl rfl ⟨by omega, by omega⟩) ?_
          refine D_val rfl rfl rfl (R_loadH ty3 rfl (hdx) rfl (fun _ => rfl) rfl) ?_
          refine D_val rfl rfl rfl (R_move rfl) ?_
          refine D_val rfl rfl rfl (R_move rfl) ?_
          refine D_val rfl rfl rfl (R_indexN sl25 ty3 rfl rfl (by omega)) ?_
          refine D_val rfl rfl rfl (R_loadH ty3 rfl (hsx) rfl (fun _ => rfl) rfl) ?_
          refine D_val rfl rfl rfl (R_cmp rfl rfl rfl) ?_
          refine D_val rfl rfl rfl (R_pickF rfl rfl) ?_
          refine D_done ?_
          refine Q_then ?_
          refine K_if rfl (fun h46 => ?_) (fun h46 => ?_)
          ·
            refine K_seq ?_
            refine K_region ?_
            refine KV (R_assign rfl) rfl ?_
            refine K_nil ?_
            refine Q_then ?_
            refine K_ret ?_
            refine Q_block_ret ?_
            refine Q_then_ret ?_
            refine Q_then_ret ?_
            refine Q_block_ret ?_
            refine Q_then_ret ?_
            refine results_gen (rs := [.tmp 6]) (vs := [_]) rfl ⟨rfl, trivial⟩ ?_
            refine congrArg Value.bool (Eq.symm ?_)
            first
              | exact mapsM_iff.2 ⟨by omega, fun j h h2 => hyes j h h2 (by omega)⟩
              | (rw [Bool.eq_false_iff]; intro hm; obtain ⟨g1, g2⟩ := mapsM_iff.1 hm; first | omega | (have g3 := g2 k hk' hk2; first | omega | (rw [hgd] at g3; omega)))
          ·
            have hyes2 : ∀ j (h : j < ls.length) (h2 : j < src.length), j < k + 1 → (0 ≤ ls[j] ∧ ls[j] < dst.length) ∧ dst.getD ls[j].toNat 0 = src[j] := by
              intro j h h2 hj
              by_cases e : j = k
              · subst e; exact ⟨by omega, by rw [hgd]; omega⟩
              · exact hyes j h h2 (by omega)
            refine K_skip ?_
            refine Q_block ?_
            refine Q_then ?_
            refine K_region ?_
            refine KV (R_move rfl) rfl ?_
            refine KV (R_add rfl rfl (by omega)) rfl ?_
            refine KV (R_assign rfl) rfl ?_
            refine K_nil ?_
            refine Q_nextD (k + 1) ⟨hk', hyes2⟩ (by (try dsimp only); omega) ⟨rfl, trivial⟩ rfl rfl rfl
    ·
      have hk' : k = ls.length := by omega
      refine K_exit ?_
      refine Q_then_exit ?_
      refine Q_then_exit ?_
      refine Q_block_exit ?_
      refine Q_then ?_
      refine K_seq ?_
      refine K_region ?_
      refine KV (R_assign rfl) rfl ?_
      refine K_nil ?_
      refine Q_then ?_
      refine K_ret ?_
      refine results_gen (rs := [.tmp 6]) (vs := [_]) rfl ⟨rfl, trivial⟩ ?_
      refine congrArg Value.bool (Eq.symm ?_)
      first
        | exact mapsM_iff.2 ⟨by omega, fun j h h2 => hyes j h h2 (by omega)⟩
        | (rw [Bool.eq_false_iff]; intro hm; obtain ⟨g1, g2⟩ := mapsM_iff.1 hm; first | omega | (have g3 := g2 k hk' hk2; first | omega | (rw [hgd] at g3; omega)))

theorem relab_spec (ls src dst : List Int) (v1 v2 v3 : Value) (H : View) (h1 : SI H v1 ls) (h2 : SI H v2 src) (h3 : SI H v3 dst) (hb1 : ls.length ≤ 1099511627776) : Sat Tryz.prog F73 #[v1, v2, v3] H (fun r _ => r = .bool (mapsM ls src dst)) := by
  obtain ⟨a1, k1, rfl⟩ := h1.shape
  obtain ⟨a2, k2, rfl⟩ := h2.shape
  obtain ⟨a3, k3, rfl⟩ := h3.shape
  refine enterO (n := 41) (args := [.slice a1 ls.length k1, .slice a2 src.length k2, .slice a3 dst.length k3]) Tryz.func34 rfl rfl rfl fun w0 => ?_
  refine K_seq ?_
  refine K_region ?_
  refine KV (R_assign rfl) rfl ?_
  refine K_nil ?_
  refine Q_then ?_
  refine K_seq ?_
  refine K_seq ?_
  refine K_region ?_
  refine KV (R_move rfl) rfl ?_
  refine KV (R_len sl25 rfl) rfl ?_
  refine KV (R_move rfl) rfl ?_
  refine KV (R_len sl47 rfl) rfl ?_
  refine KV (R_cmp rfl rfl rfl) rfl ?_
  refine K_nil ?_
  refine Q_then ?_
  refine K_if rfl (fun h13 => ?_) (fun h13 => ?_)
  ·
    refine K_seq ?_
    refine K_region ?_
    refine KV (R_assign rfl) rfl ?_
    refine K_nil ?_
    refine Q_then ?_
    refine K_ret ?_
    refine Q_then_ret ?_
    refine results_gen (rs := [.tmp 6]) (vs := [_]) rfl ⟨rfl, trivial⟩ ?_
    refine congrArg Value.bool (Eq.symm ?_)
    first
      | exact mapsM_iff.2 ⟨by omega, fun j h h2 => hyes j h h2 (by omega)⟩
      | (rw [Bool.eq_false_iff]; intro hm; obtain ⟨g1, g2⟩ := mapsM_iff.1 hm; first | omega | (have g3 := g2 k hk' hk2; first | omega | (rw [hgd] at g3; omega)))
  ·
    refine K_skip ?_
    refine Q_then ?_
    refine K_seq ?_
    refine K_seq ?_
    refine K_region ?_
    refine KV (R_move rfl) rfl ?_
    refine KV (R_len sl25 rfl) rfl ?_
    refine KV (R_move rfl) rfl ?_
    refine K_nil ?_
    refine Q_then ?_
    refine K_block ?_
    refine K_loopD (G := Nat) [6, 7, 8, 16, 17, 18, 19, 20, 21, 22, 23, 24, 25, 26, 27, 28, 29, 30, 31, 32, 33, 34, 35, 36, 37, 38, 39, 40] (fun g => [(16, .int .i64 (g : Int))]) (fun hl g => hl) (fun g => H) (fun g => (g ≤ ls.length) ∧ (∀ j (h : j < ls.length) (h2 : j < src.length), j < g → (0 ≤ ls[j] ∧ ls[j] < dst.length) ∧ dst.getD ls[j].toNat 0 = src[j])) (fun g => ls.length - g) 0 ⟨Nat.zero_le _, fun j _ _ h => by simp at h⟩ ⟨rfl, trivial⟩ (by simp only [args0, Nat.reduceAdd, del, memN, beqN, Nat.reduceBEq, cond_true, cond_false]; rfl) rfl rfl ?_
    rintro k ⟨hk, hyes⟩
    try dsimp only at hk
    try dsimp only at hyes
    dsimp only [List.set, List.cons_append, List.nil_append]
    refine K_seq ?_
    refine K_region ?_
    refine KV (R_cmp rfl rfl rfl) rfl ?_
    refine K_nil ?_
    refine Q_then ?_
    refine K_seq ?_
    refine K_if rfl (fun h17 => ?_) (fun h17 => ?_)
    ·
      have hk' : k < ls.length := by omega
      have hk2 : k < src.length := by omega
      obtain ⟨tb, to_, hte, hta⟩ := h1.get hk'
      cases hte
      obtain ⟨sb, so, hse, hsx⟩ := h2.get hk2
      cases hse
      refine K_skip ?_
      refine Q_then ?_
      refine K_seq ?_
      refine K_block ?_
      refine K_seq ?_
      refine K_region ?_
      refine KV (R_move rfl) rfl ?_
      refine KV (R_indexN sl25 ty3 rfl rfl (by omega)) rfl ?_
      refine KV (R_loadH ty3 rfl (hta) rfl (fun _ => rfl) rfl) rfl ?_
      refine KV (R_assign rfl) rfl ?_
      refine KV (R_assign rfl) rfl ?_
      refine K_nil ?_
      refine Q_then ?_
      refine K_seq ?_
      refine K_regionD (fin := false) (R := [0, 1, 2, 3, 4, 5, 6, 7, 8, 9, 10, 11, 12, 13, 14, 15, 16, 17, 18]) (by kernel_rfl) mixed (List.nil_sublist _) ?_
      refine D_val rfl rfl rfl (R_move rfl) ?_
      refine D_val rfl rfl rfl (R_cmp rfl rfl rfl) ?_
      refine D_val rfl rfl rfl (R_move rfl) ?_
      refine D_split ?_ ?_
      ·
        intro h23
        refine D_skip rfl rfl ?_
        refine D_skip rfl rfl ?_
        refine D_skip rfl rfl ?_
        refine D_skip rfl rfl ?_
        refine D_val rfl rfl rfl (R_pickT rfl rfl) ?_
        refine D_val rfl rfl rfl (R_move rfl) ?_
        refine D_skip rfl rfl ?_
        refine D_skip rfl rfl ?_
        refine D_skip rfl rfl ?_
        refine D_skip rfl rfl ?_
        refine D_skip rfl rfl ?_
        refine D_skip rfl rfl ?_
        refine D_skip rfl rfl ?_
        refine D_skip rfl rfl ?_
        refine D_skip rfl rfl ?_
        refine D_val rfl rfl rfl (R_pickT rfl rfl) ?_
        refine D_done ?_
        refine Q_then ?_
        refine K_ifT rfl ?_
        refine K_seq ?_
        refine K_region ?_
        refine KV (R_assign rfl) rfl ?_
        refine K_nil ?_
        refine Q_then ?_
        refine K_ret ?_
        refine Q_block_ret ?_
        refine Q_then_ret ?_
        refine Q_then_ret ?_
        refine Q_block_ret ?_
        refine Q_then_ret ?_
        refine results_gen (rs := [.tmp 6]) (vs := [_]) rfl ⟨rfl, trivial⟩ ?_
        refine congrArg Value.bool (Eq.symm ?_)
        first
          | exact mapsM_iff.2 ⟨by omega, fun j h h2 => hyes j h h2 (by omega)⟩
          | (rw [Bool.eq_false_iff]; intro hm; obtain ⟨g1, g2⟩ := mapsM_iff.1 hm; first | omega | (have g3 := g2 k hk' hk2; first | omega | (rw [hgd] at g3; omega)))
      ·
        intro h23
        refine D_val rfl rfl rfl (R_move rfl) ?_
        refine D_val rfl rfl rfl (R_move rfl) ?_
        refine D_val rfl rfl rfl (R_len sl47 rfl) ?_
        refine D_val rfl rfl rfl (R_cmp rfl rfl rfl) ?_
        refine D_val rfl rfl rfl (R_pickF rfl rfl) ?_
        refine D_val rfl rfl rfl (R_move rfl) ?_
        refine D_split ?_ ?_
        ·
          intro h29
          refine D_skip rfl rfl ?_
          refine D_skip rfl rfl ?_
          refine D_skip rfl rfl ?_
          refine D_skip rfl rfl ?_
          refine D_skip rfl rfl ?_
          refine D_skip rfl rfl ?_
          refine D_skip rfl rfl ?_
          refine D_skip rfl rfl ?_
          refine D_skip rfl rfl ?_
          refine D_val rfl rfl rfl (R_pickT rfl rfl) ?_
          refine D_done ?_
          refine Q_then ?_
          refine K_ifT rfl ?_
          refine K_seq ?_
          refine K_region ?_
          refine KV (R_assign rfl) rfl ?_
          refine K_nil ?_
          refine Q_then ?_
          refine K_ret ?_
          refine Q_block_ret ?_
          refine Q_then_ret ?_
          refine Q_then_ret ?_
          refine Q_block_ret ?_
          refine Q_then_ret ?_
          refine results_gen (rs := [.tmp 6]) (vs := [_]) rfl ⟨rfl, trivial⟩ ?_
          refine congrArg Value.bool (Eq.symm ?_)
          first
            | exact mapsM_iff.2 ⟨by omega, fun j h h2 => hyes j h h2 (by omega)⟩
            | (rw [Bool.eq_false_iff]; intro hm; obtain ⟨g1, g2⟩ := mapsM_iff.1 hm; first | omega | (have g3 := g2 k hk' hk2; first | omega | (rw [hgd] at g3; omega)))
        ·
          intro h29
          have hx1 : ls[k].toNat < dst.length := by omega
          obtain ⟨db, do_, hde, hdx⟩ := h3.get hx1
          cases hde
          have hgd : dst.getD ls[k].toNat 0 = dst[ls[k].toNat] := by simp [List.getD, hx1]
          refine D_val rfl rfl rfl (R_move rfl) ?_
          refine D_val rfl rfl rfl (R_move rfl) ?_
          refine D_val rfl rfl rfl (R_index sl47 ty3 rfl rfl ⟨by omega, by omega⟩) ?_
          refine D_val rfl rfl rfl (R_loadH ty3 rfl (hdx) rfl (fun _ => rfl) rfl) ?_
          refine D_val rfl rfl rfl (R_move rfl) ?_
          refine D_val rfl rfl rfl (R_move rfl) ?_
          refine D_val rfl rfl rfl (R_indexN sl47 ty3 rfl rfl (by omega)) ?_
          refine D_val rfl rfl rfl (R_loadH ty3 rfl (hsx) rfl (fun _ => rfl) rfl) ?_
          refine D_val rfl rfl rfl (R_cmp rfl rfl rfl) ?_
          refine D_val rfl rfl rfl (R_pickF rfl rfl) ?_
          refine D_done ?_
          refine Q_then ?_
          refine K_if rfl (fun h39 => ?_) (fun h39 => ?_)
          ·
            refine K_seq ?_
            refine K_region ?_
            refine KV (R_assign rfl) rfl ?_
            refine K_nil ?_
            refine Q_then ?_
            refine K_ret ?_
            refine Q_block_ret ?_
            refine Q_then_ret ?_
            refine Q_then_ret ?_
            refine Q_block_ret ?_
            refine Q_then_ret ?_
            refine results_gen (rs := [.tmp 6]) (vs := [_]) rfl ⟨rfl, trivial⟩ ?_
            refine congrArg Value.bool (Eq.symm ?_)
            first
              | exact mapsM_iff.2 ⟨by omega, fun j h h2 => hyes j h h2 (by omega)⟩
              | (rw [Bool.eq_false_iff]; intro hm; obtain ⟨g1, g2⟩ := mapsM_iff.1 hm; first | omega | (have g3 := g2 k hk' hk2; first | omega | (rw [hgd] at g3; omega)))
          ·
            have hyes2 : ∀ j (h : j < ls.length) (h2 : j < src.length), j < k + 1 → (0 ≤ ls[j] ∧ ls[j] < dst.length) ∧ dst.getD ls[j].toNat 0 = src[j] := by
              intro j h h2 hj
              by_cases e : j = k
              · subst e; exact ⟨by omega, by rw [hgd]; omega⟩
              · exact hyes j h h2 (by omega)
            refine K_skip ?_
            refine Q_block ?_
            refine Q_then ?_
            refine K_region ?_
            refine KV (R_add rfl rfl (by omega)) rfl ?_
            refine KV (R_move rfl) rfl ?_
            refine K_nil ?_
            refine Q_nextD (k + 1) ⟨hk', hyes2⟩ (by (try dsimp only); omega) ⟨rfl, trivial⟩ rfl rfl rfl
    ·
      have hk' : k = ls.length := by omega
      refine K_exit ?_
      refine Q_then_exit ?_
      refine Q_then_exit ?_
      refine Q_block_exit ?_
      refine Q_then ?_
      refine K_seq ?_
      refine K_region ?_
      refine KV (R_assign rfl) rfl ?_
      refine K_nil ?_
      refine Q_then ?_
      refine K_ret ?_
      refine results_gen (rs := [.tmp 6]) (vs := [_]) rfl ⟨rfl, trivial⟩ ?_
      refine congrArg Value.bool (Eq.symm ?_)
      first
        | exact mapsM_iff.2 ⟨by omega, fun j h h2 => hyes j h h2 (by omega)⟩
        | (rw [Bool.eq_false_iff]; intro hm; obtain ⟨g1, g2⟩ := mapsM_iff.1 hm; first | omega | (have g3 := g2 k hk' hk2; first | omega | (rw [hgd] at g3; omega)))

end Go.Proofs.X

namespace Go.Proofs.X
open Go Pal Go.Proofs
attribute [local irreducible] Pal.KO Pal.KC Pal.KQ Pal.KD
end Go.Proofs.X

namespace Go.Proofs.X
open Go Pal Go.Proofs
attribute [local irreducible] Pal.KO Pal.KC Pal.KQ Pal.KD
end Go.Proofs.X

namespace Go.Proofs.X
open Go Pal Go.Proofs
attribute [local irreducible] Pal.KO Pal.KC Pal.KQ Pal.KD

end Go.Proofs.X

namespace Go.Proofs.X
open Go Pal Go.Proofs
attribute [local irreducible] Pal.KO Pal.KC Pal.KQ Pal.KD
end Go.Proofs.X

namespace Go.Proofs.X
open Go Pal Go.Proofs
attribute [local irreducible] Pal.KO Pal.KC Pal.KQ Pal.KD
theorem c2071 : callable Tryz.prog F2071 = true := by kernel_rfl
theorem c2089 : callable Tryz.prog F2089 = true := by kernel_rfl
theorem isNaN_spec (x : Int) (H : View) : Sat Tryz.prog F2089 #[.int .i64 x] H (fun r _ => r = .bool false) := by
  refine enterO (n := 6) (args := [.int .i64 x]) Tryz.func141 rfl rfl rfl fun w0 => ?_
  refine K_seq ?_
  refine K_region ?_
  refine KV (R_assign rfl) rfl ?_
  refine K_nil ?_
  refine Q_then ?_
  refine K_seq ?_
  refine K_region ?_
  refine KV (R_move rfl) rfl ?_
  refine KV (R_move rfl) rfl ?_
  refine KV (R_cmp rfl rfl rfl) rfl ?_
  refine KV (R_assign rfl) rfl ?_
  refine K_nil ?_
  refine Q_then ?_
  refine K_ret ?_
  refine results_gen (rs := [.tmp 2]) (vs := [_]) rfl ⟨rfl, trivial⟩ ?_
  simp [tupV]

theorem ccmp_spec (x y : Int) (H : View) : Sat Tryz.prog F2071 #[.int .i64 x, .int .i64 y] H (fun r _ => r = .int .i64 (if x < y then -1 else if y < x then 1 else 0)) := by
  refine enterO (n := 20) (args := [.int .i64 x, .int .i64 y]) Tryz.func111 rfl rfl rfl fun w0 => ?_
  refine K_seq ?_
  refine K_region ?_
  refine KV (R_assign rfl) rfl ?_
  refine K_nil ?_
  refine Q_then ?_
  refine K_seq ?_
  refine K_region ?_
  refine KV (R_move rfl) rfl ?_
  refine K_call c2089 rfl rfl (isNaN_spec x H) ?_
  rintro _ V1 hv1 rfl
  refine KV (R_assign rfl) rfl ?_
  refine K_nil ?_
  refine Q_then ?_
  refine K_seq ?_
  refine K_region ?_
  refine KV (R_move rfl) rfl ?_
  refine K_call c2089 rfl rfl (isNaN_spec y V1) ?_
  rintro _ V2 hv2 rfl
  refine KV (R_assign rfl) rfl ?_
  refine K_nil ?_
  refine Q_then ?_
  refine K_seq ?_
  refine K_seq ?_
  refine K_region ?_
  refine KV (R_move rfl) rfl ?_
  refine K_nil ?_
  refine Q_then ?_
  refine K_ifB rfl (fun h11 => ?_) (fun h11 => ?_)
  ·
    cases h11
  ·
    refine K_skip ?_
    refine Q_then ?_
    refine K_seq ?_
    refine K_seq ?_
    refine K_region ?_
    refine KV (R_move rfl) rfl ?_
    refine K_nil ?_
    refine Q_then ?_
    refine K_ifB rfl (fun h13 => ?_) (fun h13 => ?_)
    ·
      cases h13
    ·
      refine K_skip ?_
      refine Q_then ?_
      refine K_seq ?_
      refine K_seq ?_
      refine K_region ?_
      refine KV (R_move rfl) rfl ?_
      refine KV (R_move rfl) rfl ?_
      refine KV (R_cmp rfl rfl rfl) rfl ?_
      refine K_nil ?_
      refine Q_then ?_
      refine K_if rfl (fun h16 => ?_) (fun h16 => ?_)
      ·
        refine K_seq ?_
        refine K_region ?_
        refine KV (R_assign rfl) rfl ?_
        refine K_nil ?_
        refine Q_then ?_
        refine K_ret ?_
        refine Q_then_ret ?_
        refine results_gen (rs := [.tmp 4]) (vs := [_]) rfl ⟨rfl, trivial⟩ ?_
        rw [if_pos h16]; rfl
      ·
        refine K_skip ?_
        refine Q_then ?_
        refine K_seq ?_
        refine K_seq ?_
        refine K_region ?_
        refine KV (R_move rfl) rfl ?_
        refine KV (R_move rfl) rfl ?_
        refine KV (R_cmp rfl rfl rfl) rfl ?_
        refine K_nil ?_
        refine Q_then ?_
        refine K_if rfl (fun h19 => ?_) (fun h19 => ?_)
        ·
          refine K_seq ?_
          refine K_region ?_
          refine KV (R_assign rfl) rfl ?_
          refine K_nil ?_
          refine Q_then ?_
          refine K_ret ?_
          refine Q_then_ret ?_
          refine results_gen (rs := [.tmp 4]) (vs := [_]) rfl ⟨rfl, trivial⟩ ?_
          rw [if_neg h16, if_pos (by omega)]; rfl
        ·
          refine K_skip ?_
          refine Q_then ?_
          refine K_seq ?_
          refine K_region ?_
          refine KV (R_assign rfl) rfl ?_
          refine K_nil ?_
          refine Q_then ?_
          refine K_ret ?_
          refine results_gen (rs := [.tmp 4]) (vs := [_]) rfl ⟨rfl, trivial⟩ ?_
          rw [if_neg h16, if_neg (by omega)]; rfl

end Go.Proofs.X

namespace Go.Proofs.X
open Go Pal Go.Proofs
attribute [local irreducible] Pal.KO Pal.KC Pal.KQ Pal.KD
end Go.Proofs.X

namespace Go.Proofs.X
open Go Pal Go.Proofs
attribute [local irreducible] Pal.KO Pal.KC Pal.KQ Pal.KD
end Go.Proofs.X

namespace Go.Proofs.X
open Go Pal Go.Proofs
attribute [local irreducible] Pal.KO Pal.KC Pal.KQ Pal.KD
end Go.Proofs.X

namespace Go.Proofs.X
open Go Pal Go.Proofs
attribute [local irreducible] Pal.KO Pal.KC Pal.KQ Pal.KD
end Go.Proofs.X

namespace Go.Proofs.X
open Go Pal Go.Proofs
attribute [local irreducible] Pal.KO Pal.KC Pal.KQ Pal.KD
end Go.Proofs.X

namespace Go.Proofs.X
open Go Pal Go.Proofs
attribute [local irreducible] Pal.KO Pal.KC Pal.KQ Pal.KD
theorem c2076 : callable Tryz.prog F2076 = true := by kernel_rfl
theorem or_spec (xs : List Int) (b : Nat) (H : View) (hl : xs.length ≤ 1099511627776) : SatO Tryz.prog F2076 #[slc xs.length b] H [blk b (.cells (ints xs).toArray T3 (0, 0))] (fun r _ q => q = [] ∧ r = .int .i64 ((xs.find? fun x => decide (x ≠ 0)).getD 0)) := by
  refine enterO (n := 18) (args := [slc xs.length b]) Tryz.func110 rfl rfl rfl fun w0 => ?_
  refine K_seq ?_
  refine K_region ?_
  refine KV (R_assign rfl) rfl ?_
  refine K_nil ?_
  refine Q_then ?_
  refine K_seq ?_
  refine K_region ?_
  refine KV (R_assign rfl) rfl ?_
  refine K_nil ?_
  refine Q_then ?_
  refine K_seq ?_
  refine K_seq ?_
  refine K_region ?_
  refine KV (R_move rfl) rfl ?_
  refine KV (R_len sl25 rfl) rfl ?_
  refine KV (R_move rfl) rfl ?_
  refine K_nil ?_
  refine Q_then ?_
  refine K_block ?_
  refine K_loopD (G := Nat) [2, 5, 8, 9, 10, 11, 12, 13, 14, 15, 16] (fun g => [(8, .int .i64 (g : Int))]) (fun hl g => hl) (fun g => H) (fun g => (g ≤ xs.length) ∧ (xs.find? (fun x => decide (x ≠ 0)) = (xs.drop g).find? fun x => decide (x ≠ 0))) (fun g => xs.length - g) (0 : Nat) ⟨Nat.zero_le _, rfl⟩ ⟨rfl, trivial⟩ (by simp only [args0, Nat.reduceAdd, del, memN, beqN, Nat.reduceBEq, cond_true, cond_false]; rfl) rfl rfl ?_
  rintro k ⟨hk, hc⟩
  try dsimp only at hk
  try dsimp only at hc
  dsimp only [List.set, List.cons_append, List.nil_append]
  refine K_seq ?_
  refine K_region ?_
  refine KV (R_cmp rfl rfl rfl) rfl ?_
  refine K_nil ?_
  refine Q_then ?_
  refine K_seq ?_
  refine K_if rfl (fun h9 => ?_) (fun h9 => ?_)
  ·
    have hk' : k < xs.length := by omega
    refine K_skip ?_
    refine Q_then ?_
    refine K_seq ?_
    refine K_block ?_
    refine K_seq ?_
    refine K_region ?_
    refine KV (R_indexN sl25 ty3 rfl rfl (by omega)) rfl ?_
    refine KV (R_loadC ty3 0 rfl rfl (by simp [ints, hk'] : ((ints xs).toArray)[(0 + k * 1)]? = some (.int .i64 xs[k]))) rfl ?_
    refine KV (R_assign rfl) rfl ?_
    refine K_nil ?_
    refine Q_then ?_
    refine K_seq ?_
    refine K_region ?_
    refine KV (R_move rfl) rfl ?_
    refine KV (R_move rfl) rfl ?_
    refine KV (R_cmp rfl rfl rfl) rfl ?_
    refine K_nil ?_
    refine Q_then ?_
    refine K_if rfl (fun h14 => ?_) (fun h14 => ?_)
    ·
      refine K_seq ?_
      refine K_region ?_
      refine KV (R_move rfl) rfl ?_
      refine KV (R_assign rfl) rfl ?_
      refine K_nil ?_
      refine Q_then ?_
      refine K_ret ?_
      refine Q_block_ret ?_
      refine Q_then_ret ?_
      refine Q_then_ret ?_
      refine Q_block_ret ?_
      refine Q_then_ret ?_
      refine results_sel [] rfl (rs := [.tmp 2]) (vs := [_]) rfl ⟨rfl, trivial⟩ ?_
      rw [hc, List.drop_eq_getElem_cons hk', List.find?_cons_of_pos (by simpa using h14)]
      exact ⟨rfl, rfl⟩
    ·
      have hc2 : xs.find? (fun x => decide (x ≠ 0)) = (xs.drop (k + 1)).find? fun x => decide (x ≠ 0) := by
        rw [hc, List.drop_eq_getElem_cons hk', List.find?_cons_of_neg (by simpa using h14)]
      refine K_skip ?_
      refine Q_block ?_
      refine Q_then ?_
      refine K_region ?_
      refine KV (R_add rfl rfl (by omega)) rfl ?_
      refine KV (R_move rfl) rfl ?_
      refine K_nil ?_
      refine Q_nextD ((k + 1)) ⟨hk', hc2⟩ (by (try dsimp only); omega) ⟨rfl, trivial⟩ rfl rfl rfl
  ·
    have hk' : k = xs.length := by omega
    refine K_exit ?_
    refine Q_then_exit ?_
    refine Q_then_exit ?_
    refine Q_block_exit ?_
    refine Q_then ?_
    refine K_seq ?_
    refine K_region ?_
    refine KV (R_move rfl) rfl ?_
    refine KV (R_assign rfl) rfl ?_
    refine K_nil ?_
    refine Q_then ?_
    refine K_ret ?_
    refine results_sel [] rfl (rs := [.tmp 2]) (vs := [_]) rfl ⟨rfl, trivial⟩ ?_
    rw [hc, hk', List.drop_length]
    exact ⟨rfl, rfl⟩

end Go.Proofs.X

namespace Go.Proofs.X
open Go Pal Go.Proofs
attribute [local irreducible] Pal.KO Pal.KC Pal.KQ Pal.KD

end Go.Proofs.X

namespace Go.Proofs.X
open Go Pal Go.Proofs
attribute [local irreducible] Pal.KO Pal.KC Pal.KQ Pal.KD
end Go.Proofs.X

namespace Go.Proofs.X
open Go Pal Go.Proofs
attribute [local irreducible] Pal.KO Pal.KC Pal.KQ Pal.KD
end Go.Proofs.X

namespace Go.Proofs.X
open Go Pal Go.Proofs
attribute [local irreducible] Pal.KO Pal.KC Pal.KQ Pal.KD
end Go.Proofs.X

namespace Go.Proofs.X
open Go Pal Go.Proofs
attribute [local irreducible] Pal.KO Pal.KC Pal.KQ Pal.KD

end Go.Proofs.X

namespace Go.Proofs.X
open Go Pal Go.Proofs
attribute [local irreducible] Pal.KO Pal.KC Pal.KQ Pal.KD
end Go.Proofs.X

namespace Go.Proofs.X
open Go Pal Go.Proofs
attribute [local irreducible] Pal.KO Pal.KC Pal.KQ Pal.KD
end Go.Proofs.X

namespace Go.Proofs.X
open Go Pal Go.Proofs
attribute [local irreducible] Pal.KO Pal.KC Pal.KQ Pal.KD
end Go.Proofs.X

namespace Go.Proofs.X
open Go Pal Go.Proofs
attribute [local irreducible] Pal.KO Pal.KC Pal.KQ Pal.KD
end Go.Proofs.X

namespace Go.Proofs.X
open Go Pal Go.Proofs
attribute [local irreducible] Pal.KO Pal.KC Pal.KQ Pal.KD
end Go.Proofs.X

namespace Go.Proofs.X
open Go Pal Go.Proofs
attribute [local irreducible] Pal.KO Pal.KC Pal.KQ Pal.KD
end Go.Proofs.X

namespace Go.Proofs.X
open Go Pal Go.Proofs
attribute [local irreducible] Pal.KO Pal.KC Pal.KQ Pal.KD

end Go.Proofs.X

namespace Go.Proofs.X
open Go Pal Go.Proofs
attribute [local irreducible] Pal.KO Pal.KC Pal.KQ Pal.KD

end Go.Proofs.X

namespace Go.Proofs.X
open Go Pal Go.Proofs
attribute [local irreducible] Pal.KO Pal.KC Pal.KQ Pal.KD
end Go.Proofs.X

namespace Go.Proofs.X
open Go Pal Go.Proofs
attribute [local irreducible] Pal.KO Pal.KC Pal.KQ Pal.KD

end Go.Proofs.X

namespace Go.Proofs.X
open Go Pal Go.Proofs
attribute [local irreducible] Pal.KO Pal.KC Pal.KQ Pal.KD
end Go.Proofs.X

namespace Go.Proofs.X
open Go Pal Go.Proofs
attribute [local irreducible] Pal.KO Pal.KC Pal.KQ Pal.KD
theorem c7 : callable Tryz.prog F7 = true := by kernel_rfl
end Go.Proofs.X

namespace Go.Proofs.X
open Go Pal Go.Proofs
attribute [local irreducible] Pal.KO Pal.KC Pal.KQ Pal.KD
theorem ty2102 : Ty Tryz.prog T2102 false 1 := .of (by kernel_rfl)
theorem ty2108 : Ty Tryz.prog T2108 false 1 := .of (by kernel_rfl)
theorem fd2111_1 : fldOk Tryz.prog T2111 1 1 = true := by kernel_rfl
theorem fd2115_0 : fldOk Tryz.prog T2115 0 0 = true := by kernel_rfl
theorem fd2115_2 : fldOk Tryz.prog T2115 2 3 = true := by kernel_rfl
theorem z2115 : zeroOk Tryz.prog T2115 (.agg #[.int .i64 0, .int .i64 0, .int .i64 0, .int .i64 0, .int .i64 0]) := .of (by kernel_rfl)
theorem ar2113 : Tryz.prog.underlying T2113 = some (.array 2 T3) := by kernel_rfl
theorem c2128 : callable Tryz.prog F2128 = true := by kernel_rfl
theorem mt2108 : Tryz.prog.underlying T2108 = some (.map T3 T2115) := by kernel_rfl
theorem wcmp_spec (c e : Ch) (H : View) : Sat Tryz.prog F2128 #[chV c, chV e] H (fun r _ => r = .int .i64 (cmpL (keyC c) (keyC e))) := by
  refine enterO (n := 26) (args := [.agg #[.int .i64 c.s, .int .i64 c.p, .int .i64 c.q, .int .i64 c.i, .int .i64 c.k], .agg #[.int .i64 e.s, .int .i64 e.p, .int .i64 e.q, .int .i64 e.i, .int .i64 e.k]]) Tryz.func80 rfl rfl rfl fun w0 => ?_
  refine K_seq ?_
  refine K_region ?_
  refine KA (A_box rfl) rfl fun b2 => ?_
  refine KA (A_box rfl) rfl fun b3 => ?_
  refine KV (R_assign rfl) rfl ?_
  refine K_nil ?_
  refine Q_then ?_
  refine K_seq ?_
  refine K_regionD (fin := false) (R := [0, 1, 2, 3, 5, 6, 7, 8, 9, 10, 12, 13, 14, 15, 16, 17, 4, 11, 18, 19, 20, 21]) (by kernel_rfl) mixed (.cons_cons _ (.cons_cons _ (List.nil_sublist _))) ?_
  refine D_val rfl rfl rfl (R_fieldAddr 0 fd2115_0 rfl) ?_
  refine D_val rfl rfl rfl (R_loadO ty3 1 rfl rfl rfl rfl (fun _ => rfl) rfl) ?_
  refine D_val rfl rfl rfl (R_fieldAddr 0 fd2115_0 rfl) ?_
  refine D_val rfl rfl rfl (R_loadO ty3 0 rfl rfl rfl rfl (fun _ => rfl) rfl) ?_
  refine D_val rfl rfl rfl (R_fieldAddr 3 fd2115_2 rfl) ?_
  refine D_val rfl rfl rfl (R_indexArr ar2113 ty3 rfl rfl ⟨by omega, by omega⟩) ?_
  refine D_val rfl rfl rfl (R_loadO ty3 1 rfl rfl rfl rfl (fun _ => rfl) rfl) ?_
  refine D_val rfl rfl rfl (R_fieldAddr 3 fd2115_2 rfl) ?_
  refine D_val rfl rfl rfl (R_indexArr ar2113 ty3 rfl rfl ⟨by omega, by omega⟩) ?_
  refine D_val rfl rfl rfl (R_loadO ty3 0 rfl rfl rfl rfl (fun _ => rfl) rfl) ?_
  refine D_val rfl rfl rfl (R_fieldAddr 3 fd2115_2 rfl) ?_
  refine D_val rfl rfl rfl (R_indexArr ar2113 ty3 rfl rfl ⟨by omega, by omega⟩) ?_
  refine D_val rfl rfl rfl (R_loadO ty3 1 rfl rfl rfl rfl (fun _ => rfl) rfl) ?_
  refine D_val rfl rfl rfl (R_fieldAddr 3 fd2115_2 rfl) ?_
  refine D_val rfl rfl rfl (R_indexArr ar2113 ty3 rfl rfl ⟨by omega, by omega⟩) ?_
  refine D_val rfl rfl rfl (R_loadO ty3 0 rfl rfl rfl rfl (fun _ => rfl) rfl) ?_
  refine D_call rfl rfl c2071 rfl ⟨⟨0, rfl⟩, ⟨1, rfl⟩, trivial⟩ (ccmp_spec c.s e.s H) ?_
  rintro _ V1 hv1 rfl
  refine D_call rfl rfl c2071 rfl ⟨⟨0, rfl⟩, ⟨1, rfl⟩, trivial⟩ (ccmp_spec c.i e.i V1) ?_
  rintro _ V2 hv2 rfl
  refine D_call rfl rfl c2071 rfl ⟨⟨0, rfl⟩, ⟨1, rfl⟩, trivial⟩ (ccmp_spec c.k e.k V2) ?_
  rintro _ V3 hv3 rfl
  refine D_alloc rfl rfl rfl (A_buildSlice (vs := [.int .i64 (if c.s < e.s then -1 else if e.s < c.s then 1 else 0), .int .i64 (if c.i < e.i then -1 else if e.i < c.i then 1 else 0), .int .i64 (if c.k < e.k then -1 else if e.k < c.k then 1 else 0)]) sl25 ty3 z3 rfl rfl (by simp [Value.cells]) (by simp) rfl (by decide)) fun b24 => ?_
  refine D_callO (first := []) [_] _ rfl rfl c2076 rfl rfl (List.Perm.refl _) ⟨⟨0, rfl⟩, ⟨1, rfl⟩, trivial⟩ (or_spec [(if c.s < e.s then -1 else if e.s < c.s then 1 else 0), (if c.i < e.i then -1 else if e.i < c.i then 1 else 0), (if c.k < e.k then -1 else if e.k < c.k then 1 else 0)] b24 V3 (by simp)) ?_
  rintro _ V4 q hle4 ⟨rfl, rfl⟩
  dsimp only [List.nil_append]
  refine D_val rfl rfl rfl (R_assign rfl) ?_
  refine D_done ?_
  refine Q_then ?_
  refine K_ret ?_
  refine results_gen (rs := [.tmp 4]) (vs := [_]) rfl ⟨rfl, trivial⟩ ?_
  refine congrArg (Value.int .i64) ?_
  unfold keyC
  simp only [cmpL]
  by_cases h1 : c.s < e.s
  · simp [h1]
  · by_cases h2 : e.s < c.s
    · simp [h1, h2]
    · by_cases h3 : c.i < e.i
      · simp [h1, h2, h3]
      · by_cases h4 : e.i < c.i
        · simp [h1, h2, h3, h4]
        · by_cases h5 : c.k < e.k
          · simp [h1, h2, h3, h4, h5]
          · by_cases h6 : e.k < c.k <;> simp [h1, h2, h3, h4, h5, h6]

theorem wless_spec (x y : Int) (b1 tb m : Nat) (kvs : KVs) (f : Int → Option Ch) (sv : Value) (H : View) (hA : At H b1 0 [ptr tb]) (hn : At H tb 0 [sv, mp m]) (hm : H m = some (mapOb kvs)) (hf : ChP kvs f) : Sat Tryz.prog F2127 ([] ++ [Value.int .i64 x, .int .i64 y] ++ [ptr b1]).toArray H (fun r _ => r = .int .i64 (cmpL (keyC ((f x).getD ch0)) (keyC ((f y).getD ch0)))) := by
  have hn1 := hn.one (j := 1) rfl
  refine enterO (n := 19) (args := [.int .i64 x, .int .i64 y, ptr b1]) Tryz.func79 rfl rfl rfl fun w0 => ?_
  refine K_seq ?_
  refine K_region ?_
  refine KV (R_assign rfl) rfl ?_
  refine K_nil ?_
  refine Q_then ?_
  refine K_seq ?_
  refine K_regionD (fin := false) (R := [0, 1, 2, 3, 4, 5, 6, 7, 8, 9, 10, 11, 12, 13]) (by kernel_rfl) mixed (List.nil_sublist _) ?_
  refine D_val rfl rfl rfl (R_loadH ty2102 rfl (hA) rfl (fun _ => rfl) rfl) ?_
  refine D_val rfl rfl rfl (R_nilCheck rfl) ?_
  refine D_val rfl rfl rfl (R_fieldAddr 1 fd2111_1 rfl) ?_
  refine D_val rfl rfl rfl (R_loadH ty2108 rfl (hn1) rfl (fun _ => rfl) rfl) ?_
  refine D_val rfl rfl rfl (R_move rfl) ?_
  refine D_val rfl rfl rfl (R_lookV mt2108 (by kernel_rfl) z2115 rfl rfl (.inl hm) (hf.val x)) ?_
  refine D_val rfl rfl rfl (R_loadH ty2102 rfl (hA) rfl (fun _ => rfl) rfl) ?_
  refine D_val rfl rfl rfl (R_nilCheck rfl) ?_
  refine D_val rfl rfl rfl (R_fieldAddr 1 fd2111_1 rfl) ?_
  refine D_val rfl rfl rfl (R_loadH ty2108 rfl (hn1) rfl (fun _ => rfl) rfl) ?_
  refine D_val rfl rfl rfl (R_move rfl) ?_
  refine D_val rfl rfl rfl (R_lookV mt2108 (by kernel_rfl) z2115 rfl rfl (.inl hm) (hf.val y)) ?_
  refine D_call rfl rfl c2128 rfl trivial (wcmp_spec ((f x).getD ch0) ((f y).getD ch0) H) ?_
  rintro _ V1 hv1 rfl
  refine D_val rfl rfl rfl (R_assign rfl) ?_
  refine D_done ?_
  refine Q_then ?_
  refine K_ret ?_
  refine results_gen (rs := [.tmp 5]) (vs := [_]) rfl ⟨rfl, trivial⟩ ?_
  rfl
end Go.Proofs.X

namespace Go.Proofs.X
open Go Pal Go.Proofs
attribute [local irreducible] Pal.KO Pal.KC Pal.KQ Pal.KD
theorem c2126 : callable Tryz.prog F2126 = true := by kernel_rfl
theorem c2127 : callable Tryz.prog F2127 = true := by kernel_rfl
theorem sortW_spec (gf : Nat) (hg : callable Tryz.prog gf = true) (cap0 : List Value) (H : View) (key : Int → List Int) (hord : ∀ x y V, VLe H V → Sat Tryz.prog gf ([] ++ [Value.int .i64 x, .int .i64 y] ++ cap0).toArray V (fun r _ => r = .int .i64 (cmpL (key x) (key y)))) (xs : List Int) (v : Value) (hlen : xs.length ≤ 1099511627776) :
    SatO Tryz.prog F2126 #[v, .func (.func gf) #[] cap0.toArray] H [row v T3 1 xs.length (ints xs)] (fun r H' q => r = .tuple #[] ∧ H' = H ∧ ∃ ys, ys.Perm xs ∧ ys.Pairwise (fun x y => cmpL (key x) (key y) ≤ 0) ∧ q = [row v T3 1 ys.length (ints ys)]) :=
  sortIntsBy (P := Tryz.prog) Tryz.layW gf hg cap0 H T3 key hord xs v (by omega)

theorem wreached_spec (f : Int → Option Ch) (R0 : List Int) (kids : List Tb) (b n : Nat) (H : View) (h : RepTb H (.mk f R0 kids) b) (hbd : ∀ q, (f q).isSome = true → 0 ≤ q ∧ q < (n : Int)) (hn8 : n ≤ 65536) : Sat Tryz.prog F2120 #[ptr b] H (fun r H' => ∃ R, IsR f R ∧ SI H' r R ∧ R.length ≤ n) := by
  cases h with | mk _ _ _ _ m kvs a cap ps hb hm hf hA hr =>
  have hn1 := hb.one (j := 1) rfl
  have hkl : kvs.length ≤ n := by
    have h1 := length_le_of_subset (xs := kvs.map (·.1)) (ys := idxs n) hf.1 fun q hq => idxs_mem.2 (hbd q ((hf.keys q).1 hq))
    simpa [idxs] using h1
  refine enterO (n := 22) (args := [ptr b]) Tryz.func37 rfl rfl rfl fun w0 => ?_
  refine K_seq ?_
  refine K_region ?_
  refine KA (A_box rfl) rfl fun b1 => ?_
  refine KV (R_assign rfl) rfl ?_
  refine K_nil ?_
  refine KQ_front 0 rfl ?_
  try dsimp only [List.eraseIdx]
  refine KQ_pubF fun U hU hb1 => ?_
  skip
  have hA1 : At U b1 0 [ptr b] := At.of hb1
  have hm1 := hU _ _ hm
  refine Q_then ?_
  refine K_seq ?_
  refine K_region ?_
  refine KV (R_assign rfl) rfl ?_
  refine K_nil ?_
  refine Q_then ?_
  refine K_seq ?_
  refine K_seq ?_
  refine K_region ?_
  refine KV (R_loadH ty2102 rfl (hA1) rfl (fun _ => rfl) rfl) rfl ?_
  refine KV (R_nilCheck rfl) rfl ?_
  refine KV (R_fieldAddr 1 fd2111_1 rfl) rfl ?_
  refine KV (R_loadH ty2108 rfl (hn1.mono hU) rfl (fun _ => rfl) rfl) rfl ?_
  refine K_range mt2108 rfl (.inl hm1) rfl fun b9 => ?_
  refine K_nil ?_
  refine Q_then ?_
  refine K_block ?_
  refine K_nilrow T3 1 ?_
  refine K_loopD (G := List Nat × Value) [3, 4, 10, 11, 12, 13, 14, 15, 16, 17] (fun g => [(3, g.2)]) (fun hl g => ((hl.set 1 (blk b9 (itO m kvs.length g.1))).set 0 (row g.2 T3 1 g.1.length (ints (keysAt kvs g.1))))) (fun g => U) (fun g => (g.1.Nodup) ∧ (∀ i ∈ g.1, i < kvs.length) ∧ (∃ wa wc, g.2 = .slice wa g.1.length wc)) (fun g => kvs.length - g.1.length) ([], nilS) ⟨List.nodup_nil, fun i hi => (by cases hi), none, 0, rfl⟩ ⟨rfl, trivial⟩ (by simp only [args0, Nat.reduceAdd, del, memN, beqN, Nat.reduceBEq, cond_true, cond_false]; rfl) rfl rfl ?_
  rintro ⟨seen, w⟩ ⟨hsn, hslt, hw⟩
  dsimp only at hsn hslt hw
  dsimp only [List.set, List.cons_append, List.nil_append]
  obtain ⟨wa, wc, rfl⟩ := hw
  have hsl3 := seen_len hsn hslt
  refine K_seq ?_
  refine K_region ?_
  refine K_next 1 rfl rfl (.inl hm1) rfl (fun hall => ?_) (fun i q u hki hni => ?_)
  ·
    refine KV (R_extract rfl rfl) rfl ?_
    refine K_nil ?_
    refine Q_then ?_
    refine K_seq ?_
    refine K_ifF rfl ?_
    refine K_exit ?_
    refine Q_then_exit ?_
    refine Q_then_exit ?_
    refine Q_block_exit ?_
    refine Q_then ?_
    refine K_seq ?_
    refine K_region ?_
    refine KV (R_move rfl) rfl ?_
    refine KV (R_makeFunc rfl rfl) rfl ?_
    have hso := sortW_spec F2127 c2127 [ptr b1] U (fun x => keyC ((f x).getD ch0)) (fun x y V hV => wless_spec x y b1 b m kvs f _ V (hA1.mono hV) (hb.mono (hU.trans hV)) (hV _ _ hm1) hf) (keysAt kvs seen) (.slice wa seen.length wc) (by rw [keysAt_len]; omega)
    rw [keysAt_len] at hso
    refine KO_sel [0, 0] rfl ?_
    refine K_callO (first := []) [_] _ (List.Perm.refl _) c2126 rfl rfl rfl hso ?_
    rintro _ V2 q20 hv2 ⟨rfl, rfl, ys, hp, hs, rfl⟩
    dsimp only [List.cons_append, List.nil_append]
    refine K_nil ?_
    refine Q_then ?_
    refine K_seq ?_
    refine K_region ?_
    refine KV (R_move rfl) rfl ?_
    refine KV (R_assign rfl) rfl ?_
    refine K_nil ?_
    refine Q_then ?_
    refine K_ret ?_
    refine KQ_pubrow rfl fun Up hUp hrow => ?_
    refine results_sel [] rfl (rs := [.tmp 2]) (vs := [_]) rfl ⟨rfl, trivial⟩ ?_
    have hpk := hp.trans (keysAt_all hsn hslt hall)
    have hmem : ∀ q, q ∈ ys ↔ (f q).isSome = true := fun q => hpk.mem_iff.trans (hf.keys q)
    refine ⟨ys, isR_of hf hpk hs, ⟨hrow.sl, fun x hx => ?_⟩, ?_⟩
    · have := hbd x ((hmem x).1 hx)
      simp only [i64ok]; omega
    · have := hpk.length_eq
      rw [List.length_map] at this
      omega
  ·
    obtain ⟨hnd2, hlt2, hle2⟩ := seen_snoc hsn hslt hni (List.getElem?_eq_some_iff.1 hki).1
    refine KV (R_extract rfl rfl) rfl ?_
    refine K_nil ?_
    refine Q_then ?_
    refine K_seq ?_
    refine K_ifT rfl ?_
    refine K_skip ?_
    refine Q_then ?_
    refine K_block ?_
    refine K_seq ?_
    refine K_region ?_
    refine KV (R_entry 1 rfl rfl (.inl hm1) hki) rfl ?_
    refine KV (R_extract rfl rfl) rfl ?_
    refine KV (R_assign rfl) rfl ?_
    refine K_nil ?_
    refine Q_then ?_
    refine K_region ?_
    refine KV (R_move rfl) rfl ?_
    refine KV (R_move rfl) rfl ?_
    refine KA (A_buildSlice (vs := [.int .i64 q]) sl25 ty3 z3 rfl rfl (by simp [Value.cells]) (by simp) rfl (by decide)) rfl fun b16 => ?_
    refine K_append1 0 ap25 rfl rfl rfl rfl rfl rfl ⟨by omega, by omega⟩ rfl fun a17 k17 hn17 => ?_
    refine KV (R_assign rfl) rfl ?_
    refine K_nil ?_
    refine Q_block ?_
    refine Q_nextD (seen ++ [i], .slice a17 (seen.length + 1) k17) ⟨hnd2, hlt2, _, _, by dsimp only; rw [List.length_append]; rfl⟩ (by dsimp only; rw [List.length_append]; simp only [List.length_cons, List.length_nil]; omega) ⟨rfl, trivial⟩ rfl (by dsimp only [List.set]; rw [List.length_append, keysAt_snoc hki, ints_snoc]; rfl) rfl
end Go.Proofs.X

namespace Go.Proofs.X
open Go Pal Go.Proofs
attribute [local irreducible] Pal.KO Pal.KC Pal.KQ Pal.KD
theorem ty2115 : Ty Tryz.prog T2115 true 5 := .of (by kernel_rfl)
theorem fd2101_0 : fldOk Tryz.prog T2101 0 0 = true := by kernel_rfl
theorem consider_spec (d : Dt) (S tb m : Nat) (w1 w2 w3 sv cv : Value) (c : Ch) (at_ : Int) (kvs : KVs) (f : Int → Option Ch) (H : View) (hd : RepDt H d w1 w2 w3) (hS : At H S 0 [w1, w2, w3, sv]) (hn : At H tb 0 [cv, mp m]) (hf : ChP kvs f) (hs : 0 ≤ c.s ∧ c.s < (d.to.length : Int)) (hat : 0 ≤ at_ ∧ at_ < ((d.to.getD c.s.toNat []).length : Int)) :
    SatO Tryz.prog F2125 #[ptr S, ptr tb, chV c, .int .i64 at_] H [blk m (mapOb kvs)] (fun _ _ q => ∃ kvs', q = [blk m (mapOb kvs')] ∧ ChP kvs' (consF f (c, atI d c.s at_))) := by
  have hS2 := hS.one (j := 2) rfl
  have hn1 := hn.one (j := 1) rfl
  have hst : c.s.toNat < d.to.length := by omega
  have hgd : d.to.getD c.s.toNat [] = d.to[c.s.toNat] := by simp [List.getD, hst]
  rw [hgd] at hat
  obtain ⟨ta, tc, rfl⟩ := hd.t.shape
  obtain ⟨rb, ro, xa, xcp, hre, hrow, hrS⟩ := hd.t.get hst
  cases hre
  have hat2 : at_.toNat < (d.to[c.s.toNat]).length := by omega
  obtain ⟨vb, vo, hve, hval⟩ := hrS.get hat2
  cases hve
  rw [← atI_is hst hat2] at hval
  refine enterO (n := 46) (args := [ptr S, ptr tb, .agg #[.int .i64 c.s, .int .i64 c.p, .int .i64 c.q, .int .i64 c.i, .int .i64 c.k], .int .i64 at_]) Tryz.func77 rfl rfl rfl fun w0 => ?_
  refine K_seq ?_
  refine K_region ?_
  refine KA (A_box rfl) rfl fun b6 => ?_
  refine K_nil ?_
  refine Q_then ?_
  refine K_seq ?_
  refine K_regionD (fin := false) (R := [0, 1, 2, 3, 4, 5, 6, 7, 8, 9, 10, 11, 12]) (by kernel_rfl) mixed (.cons_cons _ (.cons_cons _ (List.nil_sublist _))) ?_
  refine D_val rfl rfl rfl (R_move rfl) ?_
  refine D_val rfl rfl rfl (R_nilCheck rfl) ?_
  refine D_val rfl rfl rfl (R_fieldAddr 0 fd2101_0 rfl) ?_
  refine D_val rfl rfl rfl (R_fieldAddr 2 fd54_2 rfl) ?_
  refine D_val rfl rfl rfl (R_loadH ty44 rfl (hS2) rfl (fun _ => rfl) rfl) ?_
  refine D_val rfl rfl rfl (R_fieldAddr 0 fd2115_0 rfl) ?_
  refine D_val rfl rfl rfl (R_loadO ty3 0 rfl rfl rfl rfl (fun _ => rfl) rfl) ?_
  refine D_val rfl rfl rfl (R_index sl44 ty25 rfl rfl ⟨hs.1, hs.2⟩) ?_
  refine D_val rfl rfl rfl (R_loadH ty25 rfl (hrow) rfl (fun _ => rfl) rfl) ?_
  refine D_val rfl rfl rfl (R_move rfl) ?_
  refine D_val rfl rfl rfl (R_index sl25 ty3 rfl rfl ⟨hat.1, hat.2⟩) ?_
  refine D_val rfl rfl rfl (R_loadH ty3 rfl (hval) rfl (fun _ => rfl) rfl) ?_
  refine D_val rfl rfl rfl (R_assign rfl) ?_
  refine D_done ?_
  refine Q_then ?_
  refine K_seq ?_
  refine K_region ?_
  refine KV (R_move rfl) rfl ?_
  refine KV (R_nilCheck rfl) rfl ?_
  refine KV (R_fieldAddr 1 fd2111_1 rfl) rfl ?_
  refine KV (R_loadH ty2108 rfl (hn1) rfl (fun _ => rfl) rfl) rfl ?_
  refine KV (R_move rfl) rfl ?_
  refine KV (R_lookT mt2108 (by kernel_rfl) z2115 rfl rfl (MapAt.at 1 rfl) (hf.look (atI d c.s at_))) rfl ?_
  refine KV (R_move rfl) rfl ?_
  refine KV (R_extract rfl rfl) rfl ?_
  refine KV (R_extract rfl rfl) rfl ?_
  refine KA (A_alloc z2115) rfl fun b9 => ?_
  refine K_storeW ty2115 0 rfl rfl rfl rfl rfl rfl rfl ?_
  refine KV (R_assign rfl) rfl ?_
  refine K_nil ?_
  refine Q_then ?_
  refine K_seq ?_
  refine K_region ?_
  refine KV (R_move rfl) rfl ?_
  refine KV (R_not rfl) rfl ?_
  refine KV (R_move rfl) rfl ?_
  refine K_splitB ?_ ?_
  ·
    intro h34
    have hno : f (atI d c.s at_) = none := by
      cases e : f (atI d c.s at_) with
      | none => rfl
      | some o => rw [e] at h34; cases h34
    refine K_gno rfl rfl rfl rfl ?_
    refine K_gno rfl rfl rfl rfl ?_
    refine K_gno rfl rfl rfl rfl ?_
    refine K_gno rfl rfl rfl rfl ?_
    refine KV (R_pickT rfl rfl) rfl ?_
    refine K_nil ?_
    refine Q_then ?_
    refine K_ifT rfl ?_
    refine K_regionD (fin := true) (R := [0, 1, 2, 3, 4, 5, 6]) (by kernel_rfl) mixed (.cons_cons _ (.cons_cons _ (.cons_cons _ (List.nil_sublist _)))) ?_
    refine D_val rfl rfl rfl (R_move rfl) ?_
    refine D_val rfl rfl rfl (R_nilCheck rfl) ?_
    refine D_val rfl rfl rfl (R_fieldAddr 1 fd2111_1 rfl) ?_
    refine D_val rfl rfl rfl (R_loadH ty2108 rfl (by first | exact hn1 | exact hn1.mono hv1) rfl (fun _ => rfl) rfl) ?_
    refine D_val rfl rfl rfl (R_move rfl) ?_
    refine D_val rfl rfl rfl (R_loadW ty2115 1 rfl rfl rfl rfl) ?_
    refine D_lastSet mt2108 (by kernel_rfl) 2 rfl rfl rfl rfl rfl rfl ?_
    refine Q_fall ?_
    refine results_sel [2] rfl (rs := []) (vs := []) rfl trivial ?_
    exact ⟨_, rfl, by rw [consF_none hno]; exact hf.set _ c⟩
  ·
    intro h34
    obtain ⟨o, ho⟩ : ∃ o, f (atI d c.s at_) = some o := by
      cases e : f (atI d c.s at_) with
      | none => rw [e] at h34; cases h34
      | some o => exact ⟨o, rfl⟩
    refine K_gyes rfl rfl ?_
    refine KV (R_loadW ty2115 1 rfl rfl rfl rfl) rfl ?_
    refine K_gyes rfl rfl ?_
    refine KV (R_loadW ty2115 0 rfl rfl rfl rfl) rfl ?_
    refine K_gyes rfl rfl ?_
    refine K_call c2128 rfl rfl (wcmp_spec c ((f (atI d c.s at_)).getD ch0) H) ?_
    rintro _ V1 hv1 rfl
    rw [ho]
    refine K_gyes rfl rfl ?_
    refine KV (R_cmp rfl rfl rfl) rfl ?_
    refine KV (R_pickF rfl rfl) rfl ?_
    refine K_nil ?_
    refine Q_then ?_
    refine K_if rfl (fun h39 => ?_) (fun h39 => ?_)
    ·
      refine K_regionD (fin := true) (R := [0, 1, 2, 3, 4, 5, 6]) (by kernel_rfl) mixed (.cons_cons _ (.cons_cons _ (.cons_cons _ (List.nil_sublist _)))) ?_
      refine D_val rfl rfl rfl (R_move rfl) ?_
      refine D_val rfl rfl rfl (R_nilCheck rfl) ?_
      refine D_val rfl rfl rfl (R_fieldAddr 1 fd2111_1 rfl) ?_
      refine D_val rfl rfl rfl (R_loadH ty2108 rfl (by first | exact hn1 | exact hn1.mono hv1) rfl (fun _ => rfl) rfl) ?_
      refine D_val rfl rfl rfl (R_move rfl) ?_
      refine D_val rfl rfl rfl (R_loadW ty2115 1 rfl rfl rfl rfl) ?_
      refine D_lastSet mt2108 (by kernel_rfl) 2 rfl rfl rfl rfl rfl rfl ?_
      refine Q_fall ?_
      refine results_sel [2] rfl (rs := []) (vs := []) rfl trivial ?_
      exact ⟨_, rfl, by rw [consF_lt ho h39]; exact hf.set _ c⟩
    ·
      refine K_skip ?_
      refine Q_fall ?_
      refine results_sel [2] rfl (rs := []) (vs := []) rfl trivial ?_
      exact ⟨_, rfl, by rw [consF_ge ho h39]; exact hf⟩
end Go.Proofs.X
