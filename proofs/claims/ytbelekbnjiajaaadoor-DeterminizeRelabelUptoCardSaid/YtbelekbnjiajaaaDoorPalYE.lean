/-
  Part of the proof: contracts of the functions that the statements reach. Own work. No statement of the seat is proved here.
-/
import Derived.Test.YtbelekbnjiajaaaDoorPalYD
import Derived.Test.YtbelekbnjiajaaaDoorProg
namespace Go.Proofs.X
open Go Pal Go.Proofs
attribute [local irreducible] Pal.KO Pal.KC Pal.KQ Pal.KD
theorem ty22 : Ty Tryd.prog 22 false 1 := .of (by kernel_rfl)
theorem ty24 : Ty Tryd.prog 24 true 2 := .of (by kernel_rfl)
theorem ty28 : Ty Tryd.prog 28 false 1 := .of (by kernel_rfl)
theorem ty30 : Ty Tryd.prog 30 true 2 := .of (by kernel_rfl)
theorem sl22 : slcOk Tryd.prog 22 24 := by unfold slcOk; kernel_rfl
theorem sl28 : slcOk Tryd.prog 28 30 := by unfold slcOk; kernel_rfl
theorem fd24_0 : fldOk Tryd.prog 24 0 0 = true := by kernel_rfl
theorem fd24_1 : fldOk Tryd.prog 24 1 1 = true := by kernel_rfl
theorem fd30_0 : fldOk Tryd.prog 30 0 0 = true := by kernel_rfl
theorem fd30_1 : fldOk Tryd.prog 30 1 1 = true := by kernel_rfl
theorem z24 : zeroOk Tryd.prog 24 (.agg #[.int .i64 0, .slice none 0 0]) := .of (by kernel_rfl)
theorem z30 : zeroOk Tryd.prog 30 (.agg #[.int .i64 0, .slice none 0 0]) := .of (by kernel_rfl)
theorem pl24 : placesOk Tryd.prog 24 [(0, 1), (1, 1)] := ⟨_, Tryd.underlying24, by kernel_rfl⟩
theorem pl30 : placesOk Tryd.prog 30 [(0, 1), (1, 1)] := ⟨_, Tryd.underlying30, by kernel_rfl⟩
theorem c8 : callable Tryd.prog 8 = true := by kernel_rfl
theorem c9 : callable Tryd.prog 9 = true := by kernel_rfl
theorem c10 : callable Tryd.prog 10 = true := by kernel_rfl
theorem c11 : callable Tryd.prog 11 = true := by kernel_rfl
theorem c12 : callable Tryd.prog 12 = true := by kernel_rfl
theorem c13 : callable Tryd.prog 13 = true := by kernel_rfl
theorem c14 : callable Tryd.prog 14 = true := by kernel_rfl
theorem c41 : callable Tryd.prog 41 = true := by kernel_rfl
theorem ap22 : App Tryd.prog 22 24 2 32 := .of sl22 (by kernel_rfl)
theorem ap28 : App Tryd.prog 28 30 2 32 := .of sl28 (by kernel_rfl)
theorem size_spec : ∀ m t H cs, t.size ≤ m → m ≤ 1099511627776 → RepT H t cs → Sat Tryd.prog 8 #[.agg cs.toArray] H (fun v _ => v = .int .i64 (t.size : Int)) := by
  intro m
  induction m with
  | zero => intro t H cs h; have := t.size_pos; omega
  | succ m ih =>
  intro t H cs hm hb hr
  cases hr with | mk s ts a cap b off cs' hs ha hA hrec =>
  have hsz : (Tr.node s ts).size = 1 + Tr.sizes ts := rfl
  refine enterO (n := 21) (args := [.agg #[.int .i64 s, .slice a ts.length cap]]) Tryd.func8 rfl rfl rfl fun w0 => ?_
  refine K_seq ?_
  refine K_region ?_
  refine KA (A_box rfl) rfl fun b1 => ?_
  refine KV (R_assign rfl) rfl ?_
  refine K_nil ?_
  refine Q_then ?_
  refine K_seq ?_
  refine K_region ?_
  refine KV (R_assign rfl) rfl ?_
  refine K_nil ?_
  refine Q_then ?_
  refine K_seq ?_
  refine K_seq ?_
  refine K_region ?_
  refine KV (R_assign rfl) rfl ?_
  refine K_nil ?_
  refine Q_then ?_
  refine K_block ?_
  refine K_loop (G := Nat × View) ⟨fun g => [(1, .pointer (some ⟨b1, 0, none⟩)), (3, .int .i64 (1 + (Tr.sizes (ts.take g.1) : Int))), (4, .int .i64 (g.1 : Int))], fun g => [blk b1 (.cells #[.int .i64 s, .slice a ts.length cap] 24 (0, 0))], fun g => g.2, fun g => g.1 ≤ ts.length ∧ VLe H g.2, fun g => ts.length - g.1⟩ (0, H) ⟨Nat.zero_le _, VLe.refl H⟩ ⟨rfl, rfl, rfl, trivial⟩ rfl rfl ?_
  rintro ⟨k, V⟩ ⟨hk, hV⟩
  dsimp only at hk hV ⊢
  refine K_seq ?_
  refine K_seq ?_
  refine K_region ?_
  refine KV (R_move rfl) rfl ?_
  refine KV (R_fieldAddr 1 fd24_1 rfl) rfl ?_
  refine KV (R_loadO ty22 0 rfl rfl rfl rfl (fun _ => rfl) rfl) rfl ?_
  refine KV (R_len sl22 rfl) rfl ?_
  refine KV (R_cmp rfl rfl rfl) rfl ?_
  refine K_nil ?_
  refine Q_then ?_
  refine K_if rfl (fun hlt => ?_) (fun hlt => ?_)
  ·
    have hlt' : k < ts.length := by omega
    have hle := Tr.sizes_take_le ts (k + 1)
    have hln := Tr.length_le_sizes ts
    have htk := Tr.sizes_take ts k hlt'
    have ha' := ha (by intro e; subst e; simp at hlt')
    subst ha'
    refine K_skip ?_
    refine Q_then ?_
    refine K_seq ?_
    refine K_block ?_
    refine K_region ?_
    refine KV (R_move rfl) rfl ?_
    refine KV (R_fieldAddr 1 fd24_1 rfl) rfl ?_
    refine KV (R_loadO ty22 0 rfl rfl rfl rfl (fun _ => rfl) rfl) rfl ?_
    refine KV (R_move rfl) rfl ?_
    refine KV (R_indexN sl22 ty24 rfl rfl (by omega)) rfl ?_
    refine KV (R_loadH ty24 rfl ((hA k hlt').2.mono hV) (hA k hlt').1 (fun e => by cases e) rfl) rfl ?_
    refine K_call c8 rfl rfl (ih ts[k] V (cs' k) (by omega) (by omega) ((hrec k hlt').mono hV)) ?_
    rintro u V' hle2 rfl
    refine KV (R_add rfl rfl (by omega)) rfl ?_
    refine KV (R_assign rfl) rfl ?_
    refine K_nil ?_
    refine Q_block ?_
    refine Q_then ?_
    refine K_region ?_
    refine KV (R_move rfl) rfl ?_
    refine KV (R_add rfl rfl (by omega)) rfl ?_
    refine KV (R_assign rfl) rfl ?_
    refine K_nil ?_
    refine Q_next (k + 1, V') ⟨hlt', hV.trans hle2⟩ (by dsimp only; omega) ⟨rfl, ?_, rfl, trivial⟩ rfl rfl
    refine congrArg (fun z => some (Value.int .i64 z)) ?_
    dsimp only
    omega
  ·
    have hk' : k = ts.length := by omega
    subst hk'
    refine K_exit ?_
    refine Q_then_exit ?_
    refine Q_then_exit ?_
    refine Q_block_exit ?_
    refine Q_then ?_
    refine K_seq ?_
    refine K_region ?_
    refine KV (R_move rfl) rfl ?_
    refine KV (R_assign rfl) rfl ?_
    refine K_nil ?_
    refine Q_then ?_
    refine K_ret ?_
    refine results_gen (rs := [.tmp 2]) (vs := [_]) rfl ⟨rfl, trivial⟩ ?_
    rw [List.take_length]
    simp [tupV, Tr.size]

theorem deep_spec : ∀ m t H cs, t.size ≤ m → m ≤ 1099511627776 → RepT H t cs → Sat Tryd.prog 9 #[.agg cs.toArray] H (fun v _ => v = .int .i64 (t.deep : Int)) := by
  intro m
  induction m with
  | zero => intro t H cs h; have := t.size_pos; omega
  | succ m ih =>
  intro t H cs hm hb hr
  cases hr with | mk s ts a cap b off cs' hs ha hA hrec =>
  have hsz : (Tr.node s ts).size = 1 + Tr.sizes ts := rfl
  have hdl := Tr.deeps_le ts
  refine enterO (n := 25) (args := [.agg #[.int .i64 s, .slice a ts.length cap]]) Tryd.func9 rfl rfl rfl fun w0 => ?_
  refine K_seq ?_
  refine K_region ?_
  refine KA (A_box rfl) rfl fun b1 => ?_
  refine KV (R_assign rfl) rfl ?_
  refine K_nil ?_
  refine Q_then ?_
  refine K_seq ?_
  refine K_region ?_
  refine KV (R_assign rfl) rfl ?_
  refine K_nil ?_
  refine Q_then ?_
  refine K_seq ?_
  refine K_seq ?_
  refine K_region ?_
  refine KV (R_assign rfl) rfl ?_
  refine K_nil ?_
  refine Q_then ?_
  refine K_block ?_
  refine K_loop (G := Nat × View) ⟨fun g => [(1, .pointer (some ⟨b1, 0, none⟩)), (3, .int .i64 (Tr.deeps (ts.take g.1) : Int)), (4, .int .i64 (g.1 : Int))], fun g => [blk b1 (.cells #[.int .i64 s, .slice a ts.length cap] 24 (0, 0))], fun g => g.2, fun g => g.1 ≤ ts.length ∧ VLe H g.2, fun g => ts.length - g.1⟩ (0, H) ⟨Nat.zero_le _, VLe.refl H⟩ ⟨rfl, rfl, rfl, trivial⟩ rfl rfl ?_
  rintro ⟨k, V⟩ ⟨hk, hV⟩
  dsimp only at hk hV ⊢
  refine K_seq ?_
  refine K_seq ?_
  refine K_region ?_
  refine KV (R_move rfl) rfl ?_
  refine KV (R_fieldAddr 1 fd24_1 rfl) rfl ?_
  refine KV (R_loadO ty22 0 rfl rfl rfl rfl (fun _ => rfl) rfl) rfl ?_
  refine KV (R_len sl22 rfl) rfl ?_
  refine KV (R_cmp rfl rfl rfl) rfl ?_
  refine K_nil ?_
  refine Q_then ?_
  refine K_if rfl (fun hlt => ?_) (fun hlt => ?_)
  ·
    have hlt' : k < ts.length := by omega
    have hln := Tr.length_le_sizes ts
    have htk := Tr.sizes_take ts k hlt'
    have hle := Tr.sizes_take_le ts (k + 1)
    have hdk := Tr.deeps_take ts k hlt'
    have ha' := ha (by intro e; subst e; simp at hlt')
    subst ha'
    refine K_skip ?_
    refine Q_then ?_
    refine K_seq ?_
    refine K_block ?_
    refine K_seq ?_
    refine K_region ?_
    refine KV (R_fieldAddr 1 fd24_1 rfl) rfl ?_
    refine KV (R_loadO ty22 0 rfl rfl rfl rfl (fun _ => rfl) rfl) rfl ?_
    refine KV (R_move rfl) rfl ?_
    refine KV (R_indexN sl22 ty24 rfl rfl (by omega)) rfl ?_
    refine KV (R_loadH ty24 rfl ((hA k hlt').2.mono hV) (hA k hlt').1 (fun e => by cases e) rfl) rfl ?_
    refine K_call c9 rfl rfl (ih ts[k] V (cs' k) (by omega) (by omega) ((hrec k hlt').mono hV)) ?_
    rintro u V' hle2 rfl
    refine KV (R_assign rfl) rfl ?_
    refine K_nil ?_
    refine Q_then ?_
    refine K_seq ?_
    refine K_region ?_
    refine KV (R_move rfl) rfl ?_
    refine KV (R_move rfl) rfl ?_
    refine KV (R_cmp rfl rfl rfl) rfl ?_
    refine K_nil ?_
    refine Q_then ?_
    refine K_if rfl (fun hgt => ?_) (fun hgt => ?_)
    ·
      refine K_region ?_
      refine KV (R_move rfl) rfl ?_
      refine KV (R_assign rfl) rfl ?_
      refine K_nil ?_
      refine Q_block ?_
      refine Q_then ?_
      refine K_region ?_
      refine KV (R_move rfl) rfl ?_
      refine KV (R_add rfl rfl (by omega)) rfl ?_
      refine KV (R_assign rfl) rfl ?_
      refine K_nil ?_
      refine Q_next (k + 1, V') ⟨hlt', hV.trans hle2⟩ (by dsimp only; omega) ⟨rfl, ?_, rfl, trivial⟩ rfl rfl
      refine congrArg (fun z => some (Value.int .i64 z)) ?_
      dsimp only
      omega
    ·
      refine K_skip ?_
      refine Q_block ?_
      refine Q_then ?_
      refine K_region ?_
      refine KV (R_move rfl) rfl ?_
      refine KV (R_add rfl rfl (by omega)) rfl ?_
      refine KV (R_assign rfl) rfl ?_
      refine K_nil ?_
      refine Q_next (k + 1, V') ⟨hlt', hV.trans hle2⟩ (by dsimp only; omega) ⟨rfl, ?_, rfl, trivial⟩ rfl rfl
      refine congrArg (fun z => some (Value.int .i64 z)) ?_
      dsimp only
      omega
  ·
    have hk' : k = ts.length := by omega
    subst hk'
    rw [List.take_length]
    refine K_exit ?_
    refine Q_then_exit ?_
    refine Q_then_exit ?_
    refine Q_block_exit ?_
    refine Q_then ?_
    refine K_seq ?_
    refine K_region ?_
    refine KV (R_move rfl) rfl ?_
    refine KV (R_add rfl rfl (by omega)) rfl ?_
    refine KV (R_assign rfl) rfl ?_
    refine K_nil ?_
    refine Q_then ?_
    refine K_ret ?_
    refine results_gen (rs := [.tmp 2]) (vs := [_]) rfl ⟨rfl, trivial⟩ ?_
    simp [tupV, Tr.deep]

theorem tree_spec : ∀ m t H cs, t.size ≤ m → m ≤ 1099511627776 → RepT H t cs → Sat Tryd.prog 11 #[.agg cs.toArray] H (fun v H' => ∃ ds, v = .agg ds.toArray ∧ RepT H' t ds) := by
  intro m
  induction m with
  | zero => intro t H cs h; have := t.size_pos; omega
  | succ m ih =>
  intro t H cs hm hb hr
  cases hr with | mk s ts a cap b off cs' hs ha hA hrec =>
  have hsz : (Tr.node s ts).size = 1 + Tr.sizes ts := rfl
  have hln := Tr.length_le_sizes ts
  refine enterO (n := 27) (args := [.agg #[.int .i64 s, .slice a ts.length cap]]) Tryd.func11 rfl rfl rfl fun w0 => ?_
  refine K_seq ?_
  refine K_region ?_
  refine KA (A_box rfl) rfl fun b1 => ?_
  refine KA (A_alloc z30) rfl fun b2 => ?_
  refine K_nil ?_
  refine Q_then ?_
  refine K_seq ?_
  refine K_region ?_
  refine KV (R_fieldAddr 0 fd24_0 rfl) rfl ?_
  refine KV (R_loadO ty3 1 rfl rfl rfl rfl (fun _ => rfl) rfl) rfl ?_
  refine KV (R_build z30 pl30 rfl rfl) rfl ?_
  refine KA (A_alloc z30) rfl fun b3 => ?_
  refine K_store ty30 0 rfl rfl rfl rfl rfl rfl ?_
  refine K_nil ?_
  refine Q_then ?_
  refine K_seq ?_
  refine K_seq ?_
  refine K_region ?_
  refine KV (R_assign rfl) rfl ?_
  refine K_nil ?_
  refine Q_then ?_
  refine K_block ?_
  refine K_nilrow 30 2 ?_
  refine K_loop (G := Nat × View × Value × List Value) ⟨fun g => [(1, ptr b1), (2, ptr b2), (3, ptr b3), (4, .int .i64 (g.1 : Int))], fun g => [row g.2.2.1 30 2 g.1 g.2.2.2, blk b3 (.cells #[.int .i64 s, g.2.2.1] 30 (0, 0)), blk b2 (.cells #[.int .i64 0, .slice none 0 0] 30 (0, 0)), blk b1 (.cells #[.int .i64 s, .slice a ts.length cap] 24 (0, 0))], fun g => g.2.1, fun g => g.1 ≤ ts.length ∧ VLe H g.2.1 ∧ RepL (RepT g.2.1) 2 (ts.take g.1) g.2.2.2 ∧ ∃ a c, g.2.2.1 = .slice a g.1 c, fun g => ts.length - g.1⟩ (0, H, nilS, []) ⟨Nat.zero_le _, VLe.refl H, .nil, _, _, rfl⟩ ⟨rfl, rfl, rfl, rfl, trivial⟩ rfl rfl ?_
  rintro ⟨k, V, rv, xs⟩ ⟨hk, hV, hL, hrv⟩
  dsimp only at hk hV hL hrv ⊢
  obtain ⟨ra, rc, rfl⟩ := hrv
  refine K_seq ?_
  refine K_seq ?_
  refine K_region ?_
  refine KV (R_move rfl) rfl ?_
  refine KV (R_fieldAddr 1 fd24_1 rfl) rfl ?_
  refine KV (R_loadO ty22 3 rfl rfl rfl rfl (fun _ => rfl) rfl) rfl ?_
  refine KV (R_len sl22 rfl) rfl ?_
  refine KV (R_cmp rfl rfl rfl) rfl ?_
  refine K_nil ?_
  refine Q_then ?_
  refine K_if rfl (fun hlt => ?_) (fun hlt => ?_)
  ·
    have hlt' : k < ts.length := by omega
    have htk := Tr.sizes_take ts k hlt'
    have hle := Tr.sizes_take_le ts (k + 1)
    have ha' := ha (by intro e; subst e; simp at hlt')
    subst ha'
    refine K_skip ?_
    refine Q_then ?_
    refine K_seq ?_
    refine K_block ?_
    refine K_regionD (fin := true) (R := [0, 1, 2, 3, 4, 5, 6, 7, 8, 9, 10, 11]) (by kernel_rfl) mixed (.cons _ (.cons_cons _ (.cons _ (.cons_cons _ (List.nil_sublist _))))) ?_
    refine D_val rfl rfl rfl (R_fieldAddr 1 fd30_1 rfl) ?_
    refine D_val rfl rfl rfl (R_loadO ty28 0 rfl rfl rfl rfl (fun _ => rfl) rfl) ?_
    refine D_val rfl rfl rfl (R_fieldAddr 1 fd24_1 rfl) ?_
    refine D_val rfl rfl rfl (R_loadO ty22 1 rfl rfl rfl rfl (fun _ => rfl) rfl) ?_
    refine D_val rfl rfl rfl (R_move rfl) ?_
    refine D_val rfl rfl rfl (R_indexN sl22 ty24 rfl rfl (by omega)) ?_
    refine D_val rfl rfl rfl (R_loadH ty24 rfl ((hA k hlt').2.mono hV) (hA k hlt').1 (fun e => by cases e) rfl) ?_
    refine D_call rfl rfl c11 rfl ⟨⟨1, rfl⟩, ⟨3, rfl⟩, trivial⟩ (ih ts[k] V (cs' k) (by omega) (by omega) ((hrec k hlt').mono hV)) ?_
    rintro u V' hle2 ⟨ds, rfl, hds⟩
    obtain ⟨x0, x1, x2, x3, rfl⟩ := hds.shape
    refine D_alloc rfl rfl rfl (A_buildSlice (vs := [.agg #[.int .i64 x0, .slice x1 x2 x3]]) sl28 ty30 z30 rfl rfl (by simp [Value.cells]) (by simp) rfl (by decide)) fun b23 => ?_
    refine D_append1 0 ap28 rfl rfl rfl rfl rfl rfl ⟨⟨0, rfl⟩, ⟨2, rfl⟩, trivial⟩ rfl rfl ⟨by omega, by omega⟩ fun a24 k24 hn24 => ?_
    refine D_val rfl rfl rfl (R_fieldAddr 1 fd30_1 rfl) ?_
    refine D_lastStore ty28 1 rfl rfl rfl rfl rfl rfl rfl rfl ?_
    refine Q_block ?_
    refine Q_then ?_
    refine K_region ?_
    refine KV (R_move rfl) rfl ?_
    refine KV (R_add rfl rfl (by omega)) rfl ?_
    refine KV (R_assign rfl) rfl ?_
    refine K_nil ?_
    refine Q_next (k + 1, V', .slice a24 (k + 1) k24, xs ++ [.int .i64 x0, .slice x1 x2 x3]) ⟨hlt', hV.trans hle2, ?_, _, _, rfl⟩ (by dsimp only; omega) ⟨rfl, rfl, rfl, rfl, trivial⟩ rfl rfl
    dsimp only
    rw [List.take_succ_eq_append_getElem hlt']
    exact (hL.imp fun x cs h => h.mono hle2).snoc hds hds.two
  ·
    have hk' : k = ts.length := by omega
    subst hk'
    rw [List.take_length] at hL
    refine K_exit ?_
    refine Q_then_exit ?_
    refine Q_then_exit ?_
    refine Q_block_exit ?_
    refine Q_then ?_
    refine K_seq ?_
    refine K_region ?_
    refine KV (R_loadO ty30 1 rfl rfl rfl rfl (fun e => by cases e) rfl) rfl ?_
    refine K_store ty30 2 rfl rfl rfl rfl rfl rfl ?_
    refine K_nil ?_
    refine Q_then ?_
    refine K_ret ?_
    refine KQ_pubrow rfl fun Hp hp hrow => ?_
    refine results_gen (rs := [.cell 2 30]) (vs := [_]) rfl ⟨⟨_, _, _, _, _, _, 1, rfl, rfl, ty30, (fun e => by cases e), rfl, rfl⟩, trivial⟩ ?_
    exact ⟨_, rfl, .of hs hrow.sl (hL.imp fun x cs h => h.mono hp)⟩

theorem back_spec : ∀ m t H cs, t.size ≤ m → m ≤ 1099511627776 → RepT H t cs → Sat Tryd.prog 14 #[.agg cs.toArray] H (fun v H' => ∃ ds, v = .agg ds.toArray ∧ RepT H' t ds) := by
  intro m
  induction m with
  | zero => intro t H cs h; have := t.size_pos; omega
  | succ m ih =>
  intro t H cs hm hb hr
  cases hr with | mk s ts a cap b off cs' hs ha hA hrec =>
  have hsz : (Tr.node s ts).size = 1 + Tr.sizes ts := rfl
  have hln := Tr.length_le_sizes ts
  refine enterO (n := 27) (args := [.agg #[.int .i64 s, .slice a ts.length cap]]) Tryd.func14 rfl rfl rfl fun w0 => ?_
  refine K_seq ?_
  refine K_region ?_
  refine KA (A_box rfl) rfl fun b1 => ?_
  refine KA (A_alloc z24) rfl fun b2 => ?_
  refine K_nil ?_
  refine Q_then ?_
  refine K_seq ?_
  refine K_region ?_
  refine KV (R_fieldAddr 0 fd30_0 rfl) rfl ?_
  refine KV (R_loadO ty3 1 rfl rfl rfl rfl (fun _ => rfl) rfl) rfl ?_
  refine KV (R_build z24 pl24 rfl rfl) rfl ?_
  refine KA (A_alloc z24) rfl fun b3 => ?_
  refine K_store ty24 0 rfl rfl rfl rfl rfl rfl ?_
  refine K_nil ?_
  refine Q_then ?_
  refine K_seq ?_
  refine K_seq ?_
  refine K_region ?_
  refine KV (R_assign rfl) rfl ?_
  refine K_nil ?_
  refine Q_then ?_
  refine K_block ?_
  refine K_nilrow 24 2 ?_
  refine K_loop (G := Nat × View × Value × List Value) ⟨fun g => [(1, ptr b1), (2, ptr b2), (3, ptr b3), (4, .int .i64 (g.1 : Int))], fun g => [row g.2.2.1 24 2 g.1 g.2.2.2, blk b3 (.cells #[.int .i64 s, g.2.2.1] 24 (0, 0)), blk b2 (.cells #[.int .i64 0, .slice none 0 0] 24 (0, 0)), blk b1 (.cells #[.int .i64 s, .slice a ts.length cap] 30 (0, 0))], fun g => g.2.1, fun g => g.1 ≤ ts.length ∧ VLe H g.2.1 ∧ RepL (RepT g.2.1) 2 (ts.take g.1) g.2.2.2 ∧ ∃ a c, g.2.2.1 = .slice a g.1 c, fun g => ts.length - g.1⟩ (0, H, nilS, []) ⟨Nat.zero_le _, VLe.refl H, .nil, _, _, rfl⟩ ⟨rfl, rfl, rfl, rfl, trivial⟩ rfl rfl ?_
  rintro ⟨k, V, rv, xs⟩ ⟨hk, hV, hL, hrv⟩
  dsimp only at hk hV hL hrv ⊢
  obtain ⟨ra, rc, rfl⟩ := hrv
  refine K_seq ?_
  refine K_seq ?_
  refine K_region ?_
  refine KV (R_move rfl) rfl ?_
  refine KV (R_fieldAddr 1 fd30_1 rfl) rfl ?_
  refine KV (R_loadO ty28 3 rfl rfl rfl rfl (fun _ => rfl) rfl) rfl ?_
  refine KV (R_len sl28 rfl) rfl ?_
  refine KV (R_cmp rfl rfl rfl) rfl ?_
  refine K_nil ?_
  refine Q_then ?_
  refine K_if rfl (fun hlt => ?_) (fun hlt => ?_)
  ·
    have hlt' : k < ts.length := by omega
    have htk := Tr.sizes_take ts k hlt'
    have hle := Tr.sizes_take_le ts (k + 1)
    have ha' := ha (by intro e; subst e; simp at hlt')
    subst ha'
    refine K_skip ?_
    refine Q_then ?_
    refine K_seq ?_
    refine K_block ?_
    refine K_regionD (fin := true) (R := [0, 1, 2, 3, 4, 5, 6, 7, 8, 9, 10, 11]) (by kernel_rfl) mixed (.cons _ (.cons_cons _ (.cons _ (.cons_cons _ (List.nil_sublist _))))) ?_
    refine D_val rfl rfl rfl (R_fieldAddr 1 fd24_1 rfl) ?_
    refine D_val rfl rfl rfl (R_loadO ty22 0 rfl rfl rfl rfl (fun _ => rfl) rfl) ?_
    refine D_val rfl rfl rfl (R_fieldAddr 1 fd30_1 rfl) ?_
    refine D_val rfl rfl rfl (R_loadO ty28 1 rfl rfl rfl rfl (fun _ => rfl) rfl) ?_
    refine D_val rfl rfl rfl (R_move rfl) ?_
    refine D_val rfl rfl rfl (R_indexN sl28 ty30 rfl rfl (by omega)) ?_
    refine D_val rfl rfl rfl (R_loadH ty30 rfl ((hA k hlt').2.mono hV) (hA k hlt').1 (fun e => by cases e) rfl) ?_
    refine D_call rfl rfl c14 rfl ⟨⟨1, rfl⟩, ⟨3, rfl⟩, trivial⟩ (ih ts[k] V (cs' k) (by omega) (by omega) ((hrec k hlt').mono hV)) ?_
    rintro u V' hle2 ⟨ds, rfl, hds⟩
    obtain ⟨x0, x1, x2, x3, rfl⟩ := hds.shape
    refine D_alloc rfl rfl rfl (A_buildSlice (vs := [.agg #[.int .i64 x0, .slice x1 x2 x3]]) sl22 ty24 z24 rfl rfl (by simp [Value.cells]) (by simp) rfl (by decide)) fun b23 => ?_
    refine D_append1 0 ap22 rfl rfl rfl rfl rfl rfl ⟨⟨0, rfl⟩, ⟨2, rfl⟩, trivial⟩ rfl rfl ⟨by omega, by omega⟩ fun a24 k24 hn24 => ?_
    refine D_val rfl rfl rfl (R_fieldAddr 1 fd24_1 rfl) ?_
    refine D_lastStore ty22 1 rfl rfl rfl rfl rfl rfl rfl rfl ?_
    refine Q_block ?_
    refine Q_then ?_
    refine K_region ?_
    refine KV (R_move rfl) rfl ?_
    refine KV (R_add rfl rfl (by omega)) rfl ?_
    refine KV (R_assign rfl) rfl ?_
    refine K_nil ?_
    refine Q_next (k + 1, V', .slice a24 (k + 1) k24, xs ++ [.int .i64 x0, .slice x1 x2 x3]) ⟨hlt', hV.trans hle2, ?_, _, _, rfl⟩ (by dsimp only; omega) ⟨rfl, rfl, rfl, rfl, trivial⟩ rfl rfl
    dsimp only
    rw [List.take_succ_eq_append_getElem hlt']
    exact (hL.imp fun x cs h => h.mono hle2).snoc hds hds.two
  ·
    have hk' : k = ts.length := by omega
    subst hk'
    rw [List.take_length] at hL
    refine K_exit ?_
    refine Q_then_exit ?_
    refine Q_then_exit ?_
    refine Q_block_exit ?_
    refine Q_then ?_
    refine K_seq ?_
    refine K_region ?_
    refine KV (R_loadO ty24 1 rfl rfl rfl rfl (fun e => by cases e) rfl) rfl ?_
    refine K_store ty24 2 rfl rfl rfl rfl rfl rfl ?_
    refine K_nil ?_
    refine Q_then ?_
    refine K_ret ?_
    refine KQ_pubrow rfl fun Hp hp hrow => ?_
    refine results_gen (rs := [.cell 2 24]) (vs := [_]) rfl ⟨⟨_, _, _, _, _, _, 1, rfl, rfl, ty24, (fun e => by cases e), rfl, rfl⟩, trivial⟩ ?_
    exact ⟨_, rfl, .of hs hrow.sl (hL.imp fun x cs h => h.mono hp)⟩

theorem cmp_spec (a b : Int) (H : View) : Sat Tryd.prog 41 #[.int .i64 a, .int .i64 b] H (fun v _ => v = .int .i64 (cmpI a b)) := by
  refine enterO (n := 11) (args := [.int .i64 a, .int .i64 b]) Tryd.func41 rfl rfl rfl fun w0 => ?_
  refine K_seq ?_
  refine K_region ?_
  refine KV (R_assign rfl) rfl ?_
  refine K_nil ?_
  refine Q_then ?_
  refine K_seq ?_
  refine K_seq ?_
  refine K_region ?_
  refine KV (R_move rfl) rfl ?_
  refine KV (R_move rfl) rfl ?_
  refine KV (R_cmp rfl rfl rfl) rfl ?_
  refine K_nil ?_
  refine Q_then ?_
  refine K_if rfl (fun h7 => ?_) (fun h7 => ?_)
  ·
    refine K_seq ?_
    refine K_region ?_
    refine KV (R_assign rfl) rfl ?_
    refine K_nil ?_
    refine Q_then ?_
    refine K_ret ?_
    refine Q_then_ret ?_
    refine results_gen (rs := [.tmp 4]) (vs := [_]) rfl ⟨rfl, trivial⟩ ?_
    simp [tupV, cmpI, h7]
  ·
    refine K_skip ?_
    refine Q_then ?_
    refine K_seq ?_
    refine K_seq ?_
    refine K_region ?_
    refine KV (R_move rfl) rfl ?_
    refine KV (R_move rfl) rfl ?_
    refine KV (R_cmp rfl rfl rfl) rfl ?_
    refine K_nil ?_
    refine Q_then ?_
    refine K_if rfl (fun h10 => ?_) (fun h10 => ?_)
    ·
      refine K_seq ?_
      refine K_region ?_
      refine KV (R_assign rfl) rfl ?_
      refine K_nil ?_
      refine Q_then ?_
      refine K_ret ?_
      refine Q_then_ret ?_
      refine results_gen (rs := [.tmp 4]) (vs := [_]) rfl ⟨rfl, trivial⟩ ?_
      simp [tupV, cmpI, h7, h10]
    ·
      refine K_skip ?_
      refine Q_then ?_
      refine K_seq ?_
      refine K_region ?_
      refine KV (R_assign rfl) rfl ?_
      refine K_nil ?_
      refine Q_then ?_
      refine K_ret ?_
      refine results_gen (rs := [.tmp 4]) (vs := [_]) rfl ⟨rfl, trivial⟩ ?_
      simp [tupV, cmpI, h7, h10]

theorem tcmp_spec : ∀ m s t H cs ds, s.size ≤ m → t.size ≤ 1099511627776 → m ≤ 1099511627776 → RepT H s cs → RepT H t ds → Sat Tryd.prog 13 #[.agg cs.toArray, .agg ds.toArray] H (fun v _ => v = .int .i64 (Tr.cmp s t)) := by
  intro m
  induction m with
  | zero => intro t _ H cs _ h; have := t.size_pos; omega
  | succ m ih =>
  intro s t H cs ds hm ht hb hr hq
  have hrs := hr
  have hqs := hq
  cases hr with | mk s ts a cap b off cs' hs ha hA hrec =>
  cases hq with | mk u us a2 cap2 b2 off2 ds' hs2 ha2 hA2 hrec2 =>
  have hsz : (Tr.node s ts).size = 1 + Tr.sizes ts := rfl
  have hsz2 : (Tr.node u us).size = 1 + Tr.sizes us := rfl
  have hln := Tr.length_le_sizes ts
  have hln2 := Tr.length_le_sizes us
  have hunf : Tr.cmp (.node s ts) (.node u us) = if cmpI (Tr.node s ts).size (Tr.node u us).size ≠ 0 then cmpI (Tr.node s ts).size (Tr.node u us).size
      else if cmpI s u ≠ 0 then cmpI s u else if cmpI ts.length us.length ≠ 0 then cmpI ts.length us.length else Tr.cmps ts us := by simp only [Tr.cmp]
  refine enterO (n := 57) (args := [.agg #[.int .i64 s, .slice a ts.length cap], .agg #[.int .i64 u, .slice a2 us.length cap2]]) Tryd.func13 rfl rfl rfl fun w0 => ?_
  refine K_seq ?_
  refine K_region ?_
  refine KA (A_box rfl) rfl fun b2 => ?_
  refine KA (A_box rfl) rfl fun b3 => ?_
  refine KV (R_assign rfl) rfl ?_
  refine K_nil ?_
  refine Q_then ?_
  refine K_seq ?_
  refine K_seq ?_
  refine K_regionD (fin := false) (R := [0, 2, 1, 3, 4, 5]) (by kernel_rfl) mixed (.cons_cons _ (.cons_cons _ (List.nil_sublist _))) ?_
  refine D_val rfl rfl rfl (R_loadO ty24 1 rfl rfl rfl rfl (fun e => by cases e) rfl) ?_
  refine D_val rfl rfl rfl (R_loadO ty24 0 rfl rfl rfl rfl (fun e => by cases e) rfl) ?_
  refine D_call rfl rfl c8 rfl ⟨⟨0, rfl⟩, ⟨1, rfl⟩, trivial⟩ (size_spec (m + 1) (.node s ts) H _ hm hb hrs) ?_
  rintro x1 H1 hle1 rfl
  refine D_call rfl rfl c8 rfl ⟨⟨0, rfl⟩, ⟨1, rfl⟩, trivial⟩ (size_spec _ (.node u us) H1 _ (Nat.le_refl _) ht (hqs.mono hle1)) ?_
  rintro x2 H2 hle2 rfl
  refine D_call rfl rfl c41 rfl ⟨⟨0, rfl⟩, ⟨1, rfl⟩, trivial⟩ (cmp_spec _ _ H2) ?_
  rintro x3 H3 hle3 rfl
  refine D_val rfl rfl rfl (R_assign rfl) ?_
  refine D_done ?_
  refine Q_then ?_
  refine K_seq ?_
  refine K_region ?_
  refine KV (R_move rfl) rfl ?_
  refine KV (R_cmp rfl rfl rfl) rfl ?_
  refine K_nil ?_
  refine Q_then ?_
  refine K_if rfl (fun h16 => ?_) (fun h16 => ?_)
  ·
    refine K_seq ?_
    refine K_region ?_
    refine KV (R_move rfl) rfl ?_
    refine KV (R_assign rfl) rfl ?_
    refine K_nil ?_
    refine Q_then ?_
    refine K_ret ?_
    refine Q_then_ret ?_
    refine results_gen (rs := [.tmp 4]) (vs := [_]) rfl ⟨rfl, trivial⟩ ?_
    rw [hunf, if_pos h16]; rfl
  ·
    refine K_skip ?_
    refine Q_then ?_
    refine K_seq ?_
    refine K_seq ?_
    refine K_region ?_
    refine KV (R_fieldAddr 0 fd24_0 rfl) rfl ?_
    refine KV (R_loadO ty3 1 rfl rfl rfl rfl (fun _ => rfl) rfl) rfl ?_
    refine KV (R_fieldAddr 0 fd24_0 rfl) rfl ?_
    refine KV (R_loadO ty3 0 rfl rfl rfl rfl (fun _ => rfl) rfl) rfl ?_
    refine K_call c41 rfl rfl (cmp_spec _ _ H3) ?_
    rintro x4 H4 hle4 rfl
    refine KV (R_assign rfl) rfl ?_
    refine K_nil ?_
    refine Q_then ?_
    refine K_seq ?_
    refine K_region ?_
    refine KV (R_move rfl) rfl ?_
    refine KV (R_cmp rfl rfl rfl) rfl ?_
    refine K_nil ?_
    refine Q_then ?_
    refine K_if rfl (fun h24 => ?_) (fun h24 => ?_)
    ·
      refine K_seq ?_
      refine K_region ?_
      refine KV (R_move rfl) rfl ?_
      refine KV (R_assign rfl) rfl ?_
      refine K_nil ?_
      refine Q_then ?_
      refine K_ret ?_
      refine Q_then_ret ?_
      refine results_gen (rs := [.tmp 4]) (vs := [_]) rfl ⟨rfl, trivial⟩ ?_
      rw [hunf, if_neg h16, if_pos h24]; rfl
    ·
      refine K_skip ?_
      refine Q_then ?_
      refine K_seq ?_
      refine K_seq ?_
      refine K_region ?_
      refine KV (R_fieldAddr 1 fd24_1 rfl) rfl ?_
      refine KV (R_loadO ty22 1 rfl rfl rfl rfl (fun _ => rfl) rfl) rfl ?_
      refine KV (R_len sl22 rfl) rfl ?_
      refine KV (R_fieldAddr 1 fd24_1 rfl) rfl ?_
      refine KV (R_loadO ty22 0 rfl rfl rfl rfl (fun _ => rfl) rfl) rfl ?_
      refine KV (R_len sl22 rfl) rfl ?_
      refine K_call c41 rfl rfl (cmp_spec _ _ H4) ?_
      rintro x5 H5 hle5 rfl
      refine KV (R_assign rfl) rfl ?_
      refine K_nil ?_
      refine Q_then ?_
      refine K_seq ?_
      refine K_region ?_
      refine KV (R_move rfl) rfl ?_
      refine KV (R_cmp rfl rfl rfl) rfl ?_
      refine K_nil ?_
      refine Q_then ?_
      refine K_if rfl (fun h34 => ?_) (fun h34 => ?_)
      ·
        refine K_seq ?_
        refine K_region ?_
        refine KV (R_move rfl) rfl ?_
        refine KV (R_assign rfl) rfl ?_
        refine K_nil ?_
        refine Q_then ?_
        refine K_ret ?_
        refine Q_then_ret ?_
        refine results_gen (rs := [.tmp 4]) (vs := [_]) rfl ⟨rfl, trivial⟩ ?_
        rw [hunf, if_neg h16, if_neg h24, if_pos h34]; rfl
      ·
        have hlen : ts.length = us.length := by have h := h34; simp only [ne_eq, Decidable.not_not, cmpI] at h; split at h <;> (try split at h) <;> omega
        refine K_skip ?_
        refine Q_then ?_
        refine K_seq ?_
        refine K_seq ?_
        refine K_region ?_
        refine KV (R_assign rfl) rfl ?_
        refine K_nil ?_
        refine Q_then ?_
        refine K_block ?_
        refine K_loop (G := Nat × View) ⟨fun g => [(2, ptr b2), (3, ptr b3), (8, .int .i64 (g.1 : Int))], fun g => [blk b3 (.cells #[.int .i64 u, .slice a2 us.length cap2] 24 (0, 0)), blk b2 (.cells #[.int .i64 s, .slice a ts.length cap] 24 (0, 0))], fun g => g.2, fun g => g.1 ≤ ts.length ∧ VLe H g.2 ∧ Tr.cmps ts us = Tr.cmps (ts.drop g.1) (us.drop g.1), fun g => ts.length - g.1⟩ (0, H5) ⟨Nat.zero_le _, ((((hle1.trans hle2).trans hle3).trans hle4).trans hle5), rfl⟩ ⟨rfl, rfl, rfl, trivial⟩ rfl rfl ?_
        rintro ⟨k, V⟩ ⟨hk, hV, hcm⟩
        dsimp only at hk hV hcm ⊢
        refine K_seq ?_
        refine K_seq ?_
        refine K_region ?_
        refine KV (R_move rfl) rfl ?_
        refine KV (R_fieldAddr 1 fd24_1 rfl) rfl ?_
        refine KV (R_loadO ty22 1 rfl rfl rfl rfl (fun _ => rfl) rfl) rfl ?_
        refine KV (R_len sl22 rfl) rfl ?_
        refine KV (R_cmp rfl rfl rfl) rfl ?_
        refine K_nil ?_
        refine Q_then ?_
        refine K_if rfl (fun hlt => ?_) (fun hlt => ?_)
        ·
          have hlt' : k < ts.length := by omega
          have hlt2 : k < us.length := by omega
          have htk := Tr.sizes_take ts k hlt'
          have hle' := Tr.sizes_take_le ts (k + 1)
          have htk2 := Tr.sizes_take us k hlt2
          have hle2' := Tr.sizes_take_le us (k + 1)
          have hcd := Tr.cmps_drop hlt' hlt2
          have ha' := ha (by intro e; subst e; simp at hlt')
          have ha2' := ha2 (by intro e; subst e; simp at hlt2)
          subst ha' ha2'
          refine K_skip ?_
          refine Q_then ?_
          refine K_seq ?_
          refine K_block ?_
          refine K_seq ?_
          refine K_regionD (fin := false) (R := [0, 1, 2, 3, 4, 5, 6, 7, 8, 9, 10, 11]) (by kernel_rfl) mixed (.cons_cons _ (.cons_cons _ (List.nil_sublist _))) ?_
          refine D_val rfl rfl rfl (R_fieldAddr 1 fd24_1 rfl) ?_
          refine D_val rfl rfl rfl (R_loadO ty22 1 rfl rfl rfl rfl (fun _ => rfl) rfl) ?_
          refine D_val rfl rfl rfl (R_move rfl) ?_
          refine D_val rfl rfl rfl (R_indexN sl22 ty24 rfl rfl (by omega)) ?_
          refine D_val rfl rfl rfl (R_loadH ty24 rfl ((hA k hlt').2.mono hV) (hA k hlt').1 (fun e => by cases e) rfl) ?_
          refine D_val rfl rfl rfl (R_fieldAddr 1 fd24_1 rfl) ?_
          refine D_val rfl rfl rfl (R_loadO ty22 0 rfl rfl rfl rfl (fun _ => rfl) rfl) ?_
          refine D_val rfl rfl rfl (R_move rfl) ?_
          refine D_val rfl rfl rfl (R_indexN sl22 ty24 rfl rfl (by omega)) ?_
          refine D_val rfl rfl rfl (R_loadH ty24 rfl ((hA2 k hlt2).2.mono hV) (hA2 k hlt2).1 (fun e => by cases e) rfl) ?_
          refine D_call rfl rfl c13 rfl ⟨⟨0, rfl⟩, ⟨1, rfl⟩, trivial⟩ (ih ts[k] us[k] V (cs' k) (ds' k) (by omega) (by omega) (by omega) ((hrec k hlt').mono hV) ((hrec2 k hlt2).mono hV)) ?_
          rintro x6 V' hle6 rfl
          refine D_val rfl rfl rfl (R_assign rfl) ?_
          refine D_done ?_
          refine Q_then ?_
          refine K_seq ?_
          refine K_region ?_
          refine KV (R_move rfl) rfl ?_
          refine KV (R_cmp rfl rfl rfl) rfl ?_
          refine K_nil ?_
          refine Q_then ?_
          refine K_if rfl (fun h55 => ?_) (fun h55 => ?_)
          ·
            refine K_seq ?_
            refine K_region ?_
            refine KV (R_move rfl) rfl ?_
            refine KV (R_assign rfl) rfl ?_
            refine K_nil ?_
            refine Q_then ?_
            refine K_ret ?_
            refine Q_block_ret ?_
            refine Q_then_ret ?_
            refine Q_then_ret ?_
            refine Q_block_ret ?_
            refine Q_then_ret ?_
            refine results_gen (rs := [.tmp 4]) (vs := [_]) rfl ⟨rfl, trivial⟩ ?_
            rw [hunf, if_neg h16, if_neg h24, if_neg h34, hcm, hcd, if_pos h55]; rfl
          ·
            refine K_skip ?_
            refine Q_block ?_
            refine Q_then ?_
            refine K_region ?_
            refine KV (R_move rfl) rfl ?_
            refine KV (R_add rfl rfl (by omega)) rfl ?_
            refine KV (R_assign rfl) rfl ?_
            refine K_nil ?_
            refine Q_next (k + 1, V') ⟨hlt', hV.trans hle6, ?_⟩ (by dsimp only; omega) ⟨rfl, rfl, rfl, trivial⟩ rfl rfl
            dsimp only
            rw [hcm, hcd, if_neg h55]
        ·
          have hk' : k = ts.length := by omega
          subst hk'
          refine K_exit ?_
          refine Q_then_exit ?_
          refine Q_then_exit ?_
          refine Q_block_exit ?_
          refine Q_then ?_
          refine K_seq ?_
          refine K_region ?_
          refine KV (R_assign rfl) rfl ?_
          refine K_nil ?_
          refine Q_then ?_
          refine K_ret ?_
          refine results_gen (rs := [.tmp 4]) (vs := [_]) rfl ⟨rfl, trivial⟩ ?_
          rw [hunf, if_neg h16, if_neg h24, if_neg h34, hcm, List.drop_length]; rfl

theorem rrelabel_spec (to : List Int) (tv : Value) : ∀ m t H cs, t.size ≤ m → m ≤ 1099511627776 → RepT H t cs → SI H tv to → Sat Tryd.prog 12 #[.agg cs.toArray, tv] H
    (fun v H' => ∃ ds r, v = .tuple #[.agg ds.toArray, .bool r] ∧ match Tr.relabel to t with | some u => r = true ∧ RepT H' u ds | none => r = false ∧ RepT H' (.node 0 []) ds) := by
  intro m
  induction m with
  | zero => intro t H cs h; have := t.size_pos; omega
  | succ m ih =>
  intro t H cs hm hb hr hto
  cases hr with | mk s ts a cap b off cs' hs ha hA hrec =>
  obtain ⟨ta, tc, rfl⟩ := hto.shape
  have hsz : (Tr.node s ts).size = 1 + Tr.sizes ts := rfl
  have hln := Tr.length_le_sizes ts
  have h0 : ∀ H, RepT H (.node 0 []) [.int .i64 0, .slice none 0 0] := fun H => .mk 0 [] none 0 0 0 (fun _ => []) (by simp [i64ok]) (by simp) (by simp) (by simp)
  refine enterO (n := 54) (args := [.agg #[.int .i64 s, .slice a ts.length cap], .slice ta to.length tc]) Tryd.func12 rfl rfl rfl fun w0 => ?_
  refine K_seq ?_
  refine K_region ?_
  refine KA (A_box rfl) rfl fun b2 => ?_
  refine KA (A_alloc z24) rfl fun b4 => ?_
  refine KV (R_assign rfl) rfl ?_
  refine K_nil ?_
  refine Q_then ?_
  refine K_seq ?_
  refine K_seq ?_
  refine K_region ?_
  refine KV (R_fieldAddr 0 fd24_0 rfl) rfl ?_
  refine KV (R_loadO ty3 1 rfl rfl rfl rfl (fun _ => rfl) rfl) rfl ?_
  refine KV (R_cmp rfl rfl rfl) rfl ?_
  refine KV (R_move rfl) rfl ?_
  refine K_split ?_ ?_
  ·
    intro h12
    refine K_gno rfl rfl rfl rfl ?_
    refine K_gno rfl rfl rfl rfl ?_
    refine K_gno rfl rfl rfl rfl ?_
    refine K_gno rfl rfl rfl rfl ?_
    refine K_gno rfl rfl rfl rfl ?_
    refine KV (R_pickT rfl rfl) rfl ?_
    refine K_nil ?_
    refine Q_then ?_
    refine K_ifT rfl ?_
    refine K_seq ?_
    refine K_region ?_
    refine KV (R_build z24 pl24 rfl rfl) rfl ?_
    refine K_store ty24 0 rfl rfl rfl rfl rfl rfl ?_
    refine KV (R_assign rfl) rfl ?_
    refine K_nil ?_
    refine Q_then ?_
    refine K_ret ?_
    refine Q_then_ret ?_
    refine results_gen (rs := [.cell 4 24, .tmp 5]) (vs := [_, _]) rfl ⟨⟨_, _, _, _, _, _, 0, rfl, rfl, ty24, (fun e => by cases e), rfl, rfl⟩, ⟨rfl, trivial⟩⟩ ?_
    refine ⟨_, _, rfl, ?_⟩
    have hn : Tr.relabel to (.node s ts) = none := by simp only [Tr.relabel]; rw [if_neg (by omega)]
    rw [hn]
    exact ⟨rfl, h0 _⟩
  ·
    intro h12
    refine K_gyes rfl rfl ?_
    refine KV (R_fieldAddr 0 fd24_0 rfl) rfl ?_
    refine K_gyes rfl rfl ?_
    refine KV (R_loadO ty3 1 rfl rfl rfl rfl (fun _ => rfl) rfl) rfl ?_
    refine K_gyes rfl rfl ?_
    refine KV (R_move rfl) rfl ?_
    refine K_gyes rfl rfl ?_
    refine KV (R_len sl25 rfl) rfl ?_
    refine K_gyes rfl rfl ?_
    refine KV (R_cmp rfl rfl rfl) rfl ?_
    refine KV (R_pickF rfl rfl) rfl ?_
    refine K_split ?_ ?_
    ·
      intro h18
      refine K_nil ?_
      refine Q_then ?_
      refine K_ifT rfl ?_
      refine K_seq ?_
      refine K_region ?_
      refine KV (R_build z24 pl24 rfl rfl) rfl ?_
      refine K_store ty24 0 rfl rfl rfl rfl rfl rfl ?_
      refine KV (R_assign rfl) rfl ?_
      refine K_nil ?_
      refine Q_then ?_
      refine K_ret ?_
      refine Q_then_ret ?_
      refine results_gen (rs := [.cell 4 24, .tmp 5]) (vs := [_, _]) rfl ⟨⟨_, _, _, _, _, _, 0, rfl, rfl, ty24, (fun e => by cases e), rfl, rfl⟩, ⟨rfl, trivial⟩⟩ ?_
      refine ⟨_, _, rfl, ?_⟩
      have hn : Tr.relabel to (.node s ts) = none := by simp only [Tr.relabel]; rw [if_neg (by omega)]
      rw [hn]
      exact ⟨rfl, h0 _⟩
    ·
      intro h18
      have hs0 : 0 ≤ s := by omega
      have hs1 : s < to.length := by omega
      have hs2 : s.toNat < to.length := by omega
      have hunf : Tr.relabel to (.node s ts) = (Tr.relabels to ts).map (.node (to.getD s.toNat 0)) := by simp only [Tr.relabel]; rw [if_pos ⟨hs0, hs1⟩]
      obtain ⟨tb, to_, rfl, hta⟩ := hto.get hs2
      have hgd : to.getD s.toNat 0 = to[s.toNat] := by simp [List.getD, hs2]
      refine K_nil ?_
      refine Q_then ?_
      refine K_ifF rfl ?_
      refine K_skip ?_
      refine Q_then ?_
      refine K_seq ?_
      refine K_region ?_
      refine KV (R_move rfl) rfl ?_
      refine KV (R_fieldAddr 0 fd24_0 rfl) rfl ?_
      refine KV (R_loadO ty3 1 rfl rfl rfl rfl (fun _ => rfl) rfl) rfl ?_
      refine KV (R_index sl25 ty3 rfl rfl ⟨hs0, hs1⟩) rfl ?_
      refine KV (R_loadH ty3 rfl (hta) rfl (fun _ => rfl) rfl) rfl ?_
      refine KV (R_build z24 pl24 rfl rfl) rfl ?_
      refine KA (A_alloc z24) rfl fun b6 => ?_
      refine K_store ty24 0 rfl rfl rfl rfl rfl rfl ?_
      refine K_nil ?_
      refine Q_then ?_
      refine K_seq ?_
      refine K_seq ?_
      refine K_region ?_
      refine KV (R_assign rfl) rfl ?_
      refine K_nil ?_
      refine Q_then ?_
      refine K_block ?_
      refine K_nilrow 24 2 ?_
      refine K_loop (G := Nat × View × Value × List Value × List Tr) ⟨fun g => [(1, .slice (some ⟨tb, to_, none⟩) to.length tc), (2, ptr b2), (4, ptr b4), (6, ptr b6), (7, .int .i64 (g.1 : Int))], fun g => [row g.2.2.1 24 2 g.1 g.2.2.2.1, blk b6 (.cells #[.int .i64 to[s.toNat], g.2.2.1] 24 (0, 0)), blk b4 (.cells #[.int .i64 0, .slice none 0 0] 24 (0, 0)), blk b2 (.cells #[.int .i64 s, .slice a ts.length cap] 24 (0, 0))], fun g => g.2.1, fun g => g.1 ≤ ts.length ∧ VLe H g.2.1 ∧ RepL (RepT g.2.1) 2 g.2.2.2.2 g.2.2.2.1 ∧ (∃ a c, g.2.2.1 = .slice a g.1 c) ∧ Tr.relabels to (ts.take g.1) = some g.2.2.2.2 ∧ g.2.2.2.2.length = g.1, fun g => ts.length - g.1⟩ (0, H, nilS, [], []) ⟨Nat.zero_le _, VLe.refl H, .nil, ⟨_, _, rfl⟩, rfl, rfl⟩ ⟨rfl, rfl, rfl, rfl, rfl, trivial⟩ rfl rfl ?_
      rintro ⟨k, V, rv, xs, us⟩ ⟨hk, hV, hL, hrv, hrl, hul⟩
      dsimp only at hk hV hL hrv hrl hul ⊢
      obtain ⟨ra, rc, rfl⟩ := hrv
      refine K_seq ?_
      refine K_seq ?_
      refine K_region ?_
      refine KV (R_move rfl) rfl ?_
      refine KV (R_fieldAddr 1 fd24_1 rfl) rfl ?_
      refine KV (R_loadO ty22 3 rfl rfl rfl rfl (fun _ => rfl) rfl) rfl ?_
      refine KV (R_len sl22 rfl) rfl ?_
      refine KV (R_cmp rfl rfl rfl) rfl ?_
      refine K_nil ?_
      refine Q_then ?_
      refine K_if rfl (fun hlt => ?_) (fun hlt => ?_)
      ·
        have hlt' : k < ts.length := by omega
        have htk := Tr.sizes_take ts k hlt'
        have hle := Tr.sizes_take_le ts (k + 1)
        have ha' := ha (by intro e; subst e; simp at hlt')
        subst ha'
        refine K_skip ?_
        refine Q_then ?_
        refine K_seq ?_
        refine K_block ?_
        refine K_seq ?_
        refine K_region ?_
        refine KV (R_fieldAddr 1 fd24_1 rfl) rfl ?_
        refine KV (R_loadO ty22 3 rfl rfl rfl rfl (fun _ => rfl) rfl) rfl ?_
        refine KV (R_move rfl) rfl ?_
        refine KV (R_indexN sl22 ty24 rfl rfl (by omega)) rfl ?_
        refine KV (R_loadH ty24 rfl ((hA k hlt').2.mono hV) (hA k hlt').1 (fun e => by cases e) rfl) rfl ?_
        refine KV (R_move rfl) rfl ?_
        refine K_call c12 rfl rfl (ih ts[k] V (cs' k) (by omega) (by omega) ((hrec k hlt').mono hV) (hto.mono hV)) ?_
        rintro _ V' hle2 ⟨ds, r, rfl, hres⟩
        obtain ⟨x0, x1, x2, x3, rfl⟩ : ∃ s a k c, ds = [.int .i64 s, .slice a k c] := by
          revert hres; split
          · rintro ⟨_, h⟩; exact h.shape
          · rintro ⟨_, h⟩; exact h.shape
        refine KV (R_move rfl) rfl ?_
        refine KV (R_extract rfl rfl) rfl ?_
        refine KV (R_extract rfl rfl) rfl ?_
        refine KA (A_alloc z24) rfl fun b8 => ?_
        refine K_store ty24 0 rfl rfl rfl rfl rfl rfl ?_
        refine KV (R_assign rfl) rfl ?_
        refine K_nil ?_
        refine Q_then ?_
        refine K_seq ?_
        refine K_seq ?_
        refine K_region ?_
        refine KV (R_move rfl) rfl ?_
        refine KV (R_not rfl) rfl ?_
        refine K_nil ?_
        refine Q_then ?_
        cases hu' : Tr.relabel to ts[k] with
        | none =>
          rw [hu'] at hres
          obtain ⟨rfl, _⟩ := hres
          refine K_ifT rfl ?_
          refine K_seq ?_
          refine K_region ?_
          refine KV (R_build z24 pl24 rfl rfl) rfl ?_
          refine K_store ty24 3 rfl rfl rfl rfl rfl rfl ?_
          refine KV (R_assign rfl) rfl ?_
          refine K_nil ?_
          refine Q_then ?_
          refine K_ret ?_
          refine Q_then_ret ?_
          refine Q_block_ret ?_
          refine Q_then_ret ?_
          refine Q_then_ret ?_
          refine Q_block_ret ?_
          refine Q_then_ret ?_
          refine results_gen (rs := [.cell 4 24, .tmp 5]) (vs := [_, _]) rfl ⟨⟨_, _, _, _, _, _, 3, rfl, rfl, ty24, (fun e => by cases e), rfl, rfl⟩, ⟨rfl, trivial⟩⟩ ?_
          refine ⟨_, _, rfl, ?_⟩
          rw [hunf, Tr.relabels_none hrl hlt' hu']
          exact ⟨rfl, h0 _⟩
        | some u' =>
          rw [hu'] at hres
          obtain ⟨rfl, hds⟩ := hres
          refine K_ifF rfl ?_
          refine K_skip ?_
          refine Q_then ?_
          refine K_region ?_
          refine KV (R_fieldAddr 1 fd24_1 rfl) rfl ?_
          refine KV (R_loadO ty22 2 rfl rfl rfl rfl (fun _ => rfl) rfl) rfl ?_
          refine KV (R_loadO ty24 0 rfl rfl rfl rfl (fun e => by cases e) rfl) rfl ?_
          refine KA (A_buildSlice (vs := [.agg #[.int .i64 x0, .slice x1 x2 x3]]) sl22 ty24 z24 rfl rfl (by simp [Value.cells]) (by simp) rfl (by decide)) rfl fun b50 => ?_
          refine K_append1 1 ap22 rfl rfl rfl rfl rfl rfl ⟨by omega, by omega⟩ rfl fun a51 k51 hn51 => ?_
          refine KV (R_fieldAddr 1 fd24_1 rfl) rfl ?_
          refine K_store ty22 2 rfl rfl rfl rfl rfl rfl ?_
          refine K_nil ?_
          refine Q_block ?_
          refine Q_then ?_
          refine K_region ?_
          refine KV (R_move rfl) rfl ?_
          refine KV (R_add rfl rfl (by omega)) rfl ?_
          refine KV (R_assign rfl) rfl ?_
          refine K_nil ?_
          refine KQ_sel [0, 1, 1, 1] rfl ?_
          refine Q_next (k + 1, V', .slice a51 (k + 1) k51, xs ++ [.int .i64 x0, .slice x1 x2 x3], us ++ [u']) ⟨hlt', hV.trans hle2, ?_, ⟨_, _, rfl⟩, Tr.relabels_some hrl hlt' hu', by simp [hul]⟩ (by dsimp only; omega) ⟨rfl, rfl, rfl, rfl, rfl, trivial⟩ rfl rfl
          exact (hL.imp fun x cs h => h.mono hle2).snoc hds hds.two
      ·
        have hk' : k = ts.length := by omega
        subst hk'
        rw [List.take_length] at hrl
        refine K_exit ?_
        refine Q_then_exit ?_
        refine Q_then_exit ?_
        refine Q_block_exit ?_
        refine Q_then ?_
        refine K_seq ?_
        refine K_region ?_
        refine KV (R_loadO ty24 1 rfl rfl rfl rfl (fun e => by cases e) rfl) rfl ?_
        refine K_store ty24 2 rfl rfl rfl rfl rfl rfl ?_
        refine KV (R_assign rfl) rfl ?_
        refine K_nil ?_
        refine Q_then ?_
        refine K_ret ?_
        refine KQ_pubrow rfl fun Hp hp hrow => ?_
        refine results_gen (rs := [.cell 4 24, .tmp 5]) (vs := [_, _]) rfl ⟨⟨_, _, _, _, _, _, 1, rfl, rfl, ty24, (fun e => by cases e), rfl, rfl⟩, ⟨rfl, trivial⟩⟩ ?_
        refine ⟨_, _, rfl, ?_⟩
        rw [hunf, hrl, hgd]
        exact ⟨rfl, .of (hto.2 _ (List.getElem_mem hs2)) (hul ▸ hrow.sl) (hL.imp fun x cs h => h.mono hp)⟩

theorem relabel_spec (to : List Int) (tv : Value) : ∀ m t H cs, t.size ≤ m → m ≤ 1099511627776 → RepT H t cs → SI H tv to → Sat Tryd.prog 10 #[.agg cs.toArray, tv] H
    (fun v H' => ∃ ds e, v = .tuple #[.agg ds.toArray, .int .i64 e] ∧ match Tr.relabel to t with | some u => e = 0 ∧ RepT H' u ds | none => e = 6 ∧ RepT H' (.node 0 []) ds) := by
  intro m
  induction m with
  | zero => intro t H cs h; have := t.size_pos; omega
  | succ m ih =>
  intro t H cs hm hb hr hto
  cases hr with | mk s ts a cap b off cs' hs ha hA hrec =>
  obtain ⟨ta, tc, rfl⟩ := hto.shape
  have hsz : (Tr.node s ts).size = 1 + Tr.sizes ts := rfl
  have hln := Tr.length_le_sizes ts
  have h0 : ∀ H, RepT H (.node 0 []) [.int .i64 0, .slice none 0 0] := fun H => .mk 0 [] none 0 0 0 (fun _ => []) (by simp [i64ok]) (by simp) (by simp) (by simp)
  refine enterO (n := 53) (args := [.agg #[.int .i64 s, .slice a ts.length cap], .slice ta to.length tc]) Tryd.func10 rfl rfl rfl fun w0 => ?_
  refine K_seq ?_
  refine K_region ?_
  refine KA (A_box rfl) rfl fun b2 => ?_
  refine KA (A_alloc z30) rfl fun b4 => ?_
  refine KV (R_assign rfl) rfl ?_
  refine K_nil ?_
  refine Q_then ?_
  refine K_seq ?_
  refine K_seq ?_
  refine K_region ?_
  refine KV (R_fieldAddr 0 fd30_0 rfl) rfl ?_
  refine KV (R_loadO ty3 1 rfl rfl rfl rfl (fun _ => rfl) rfl) rfl ?_
  refine KV (R_cmp rfl rfl rfl) rfl ?_
  refine KV (R_move rfl) rfl ?_
  refine K_split ?_ ?_
  ·
    intro h12
    refine K_gno rfl rfl rfl rfl ?_
    refine K_gno rfl rfl rfl rfl ?_
    refine K_gno rfl rfl rfl rfl ?_
    refine K_gno rfl rfl rfl rfl ?_
    refine K_gno rfl rfl rfl rfl ?_
    refine KV (R_pickT rfl rfl) rfl ?_
    refine K_nil ?_
    refine Q_then ?_
    refine K_ifT rfl ?_
    refine K_seq ?_
    refine K_region ?_
    refine KV (R_build z30 pl30 rfl rfl) rfl ?_
    refine K_store ty30 0 rfl rfl rfl rfl rfl rfl ?_
    refine KV (R_assign rfl) rfl ?_
    refine K_nil ?_
    refine Q_then ?_
    refine K_ret ?_
    refine Q_then_ret ?_
    refine results_gen (rs := [.cell 4 30, .tmp 5]) (vs := [_, _]) rfl ⟨⟨_, _, _, _, _, _, 0, rfl, rfl, ty30, (fun e => by cases e), rfl, rfl⟩, ⟨rfl, trivial⟩⟩ ?_
    refine ⟨_, _, rfl, ?_⟩
    have hn : Tr.relabel to (.node s ts) = none := by simp only [Tr.relabel]; rw [if_neg (by omega)]
    rw [hn]
    exact ⟨rfl, h0 _⟩
  ·
    intro h12
    refine K_gyes rfl rfl ?_
    refine KV (R_fieldAddr 0 fd30_0 rfl) rfl ?_
    refine K_gyes rfl rfl ?_
    refine KV (R_loadO ty3 1 rfl rfl rfl rfl (fun _ => rfl) rfl) rfl ?_
    refine K_gyes rfl rfl ?_
    refine KV (R_move rfl) rfl ?_
    refine K_gyes rfl rfl ?_
    refine KV (R_len sl25 rfl) rfl ?_
    refine K_gyes rfl rfl ?_
    refine KV (R_cmp rfl rfl rfl) rfl ?_
    refine KV (R_pickF rfl rfl) rfl ?_
    refine K_split ?_ ?_
    ·
      intro h18
      refine K_nil ?_
      refine Q_then ?_
      refine K_ifT rfl ?_
      refine K_seq ?_
      refine K_region ?_
      refine KV (R_build z30 pl30 rfl rfl) rfl ?_
      refine K_store ty30 0 rfl rfl rfl rfl rfl rfl ?_
      refine KV (R_assign rfl) rfl ?_
      refine K_nil ?_
      refine Q_then ?_
      refine K_ret ?_
      refine Q_then_ret ?_
      refine results_gen (rs := [.cell 4 30, .tmp 5]) (vs := [_, _]) rfl ⟨⟨_, _, _, _, _, _, 0, rfl, rfl, ty30, (fun e => by cases e), rfl, rfl⟩, ⟨rfl, trivial⟩⟩ ?_
      refine ⟨_, _, rfl, ?_⟩
      have hn : Tr.relabel to (.node s ts) = none := by simp only [Tr.relabel]; rw [if_neg (by omega)]
      rw [hn]
      exact ⟨rfl, h0 _⟩
    ·
      intro h18
      have hs0 : 0 ≤ s := by omega
      have hs1 : s < to.length := by omega
      have hs2 : s.toNat < to.length := by omega
      have hunf : Tr.relabel to (.node s ts) = (Tr.relabels to ts).map (.node (to.getD s.toNat 0)) := by simp only [Tr.relabel]; rw [if_pos ⟨hs0, hs1⟩]
      obtain ⟨tb, to_, rfl, hta⟩ := hto.get hs2
      have hgd : to.getD s.toNat 0 = to[s.toNat] := by simp [List.getD, hs2]
      refine K_nil ?_
      refine Q_then ?_
      refine K_ifF rfl ?_
      refine K_skip ?_
      refine Q_then ?_
      refine K_seq ?_
      refine K_region ?_
      refine KV (R_move rfl) rfl ?_
      refine KV (R_fieldAddr 0 fd30_0 rfl) rfl ?_
      refine KV (R_loadO ty3 1 rfl rfl rfl rfl (fun _ => rfl) rfl) rfl ?_
      refine KV (R_index sl25 ty3 rfl rfl ⟨hs0, hs1⟩) rfl ?_
      refine KV (R_loadH ty3 rfl (hta) rfl (fun _ => rfl) rfl) rfl ?_
      refine KV (R_build z30 pl30 rfl rfl) rfl ?_
      refine KA (A_alloc z30) rfl fun b6 => ?_
      refine K_store ty30 0 rfl rfl rfl rfl rfl rfl ?_
      refine K_nil ?_
      refine Q_then ?_
      refine K_seq ?_
      refine K_seq ?_
      refine K_region ?_
      refine KV (R_fieldAddr 1 fd30_1 rfl) rfl ?_
      refine KV (R_loadO ty28 2 rfl rfl rfl rfl (fun _ => rfl) rfl) rfl ?_
      refine KV (R_len sl28 rfl) rfl ?_
      refine KV (R_move rfl) rfl ?_
      refine K_nil ?_
      refine Q_then ?_
      refine K_block ?_
      refine K_nilrow 30 2 ?_
      refine K_loop (G := Nat × View × Value × List Value × List Tr) ⟨fun g => [(1, .slice (some ⟨tb, to_, none⟩) to.length tc), (2, ptr b2), (4, ptr b4), (6, ptr b6), (29, .slice a ts.length cap), (30, .int .i64 ts.length), (31, .int .i64 (g.1 : Int))], fun g => [row g.2.2.1 30 2 g.1 g.2.2.2.1, blk b6 (.cells #[.int .i64 to[s.toNat], g.2.2.1] 30 (0, 0)), blk b4 (.cells #[.int .i64 0, .slice none 0 0] 30 (0, 0)), blk b2 (.cells #[.int .i64 s, .slice a ts.length cap] 30 (0, 0))], fun g => g.2.1, fun g => g.1 ≤ ts.length ∧ VLe H g.2.1 ∧ RepL (RepT g.2.1) 2 g.2.2.2.2 g.2.2.2.1 ∧ (∃ a c, g.2.2.1 = .slice a g.1 c) ∧ Tr.relabels to (ts.take g.1) = some g.2.2.2.2 ∧ g.2.2.2.2.length = g.1, fun g => ts.length - g.1⟩ (0, H, nilS, [], []) ⟨Nat.zero_le _, VLe.refl H, .nil, ⟨_, _, rfl⟩, rfl, rfl⟩ ⟨rfl, rfl, rfl, rfl, rfl, rfl, rfl, trivial⟩ rfl rfl ?_
      rintro ⟨k, V, rv, xs, us⟩ ⟨hk, hV, hL, hrv, hrl, hul⟩
      dsimp only at hk hV hL hrv hrl hul ⊢
      obtain ⟨ra, rc, rfl⟩ := hrv
      refine K_seq ?_
      refine K_region ?_
      refine KV (R_cmp rfl rfl rfl) rfl ?_
      refine K_nil ?_
      refine Q_then ?_
      refine K_seq ?_
      refine K_if rfl (fun hlt => ?_) (fun hlt => ?_)
      ·
        have hlt' : k < ts.length := by omega
        have htk := Tr.sizes_take ts k hlt'
        have hle := Tr.sizes_take_le ts (k + 1)
        have ha' := ha (by intro e; subst e; simp at hlt')
        subst ha'
        obtain ⟨y0, y1, y2, y3, hcs⟩ := (hrec k hlt').shape
        have hreck := (hrec k hlt').mono hV
        rw [hcs] at hreck
        refine K_skip ?_
        refine Q_then ?_
        refine K_seq ?_
        refine K_block ?_
        refine K_seq ?_
        refine K_region ?_
        refine KV (R_indexN sl28 ty30 rfl rfl (by omega)) rfl ?_
        refine KV (R_loadH ty30 rfl (hcs ▸ (hA k hlt').2.mono hV) rfl (fun e => by cases e) rfl) rfl ?_
        refine KA (A_alloc z30) rfl fun b8 => ?_
        refine K_store ty30 0 rfl rfl rfl rfl rfl rfl ?_
        refine K_nil ?_
        refine Q_then ?_
        refine K_seq ?_
        refine K_region ?_
        refine KV (R_loadO ty30 0 rfl rfl rfl rfl (fun e => by cases e) rfl) rfl ?_
        refine KV (R_move rfl) rfl ?_
        refine K_call c10 rfl rfl (ih ts[k] V _ (by omega) (by omega) hreck (hto.mono hV)) ?_
        rintro _ V' hle2 ⟨ds, r, rfl, hres⟩
        obtain ⟨x0, x1, x2, x3, rfl⟩ : ∃ s a k c, ds = [.int .i64 s, .slice a k c] := by
          revert hres; split
          · rintro ⟨_, h⟩; exact h.shape
          · rintro ⟨_, h⟩; exact h.shape
        refine KV (R_move rfl) rfl ?_
        refine KV (R_extract rfl rfl) rfl ?_
        refine KV (R_extract rfl rfl) rfl ?_
        refine KA (A_alloc z30) rfl fun b9 => ?_
        refine K_store ty30 0 rfl rfl rfl rfl rfl rfl ?_
        refine KV (R_assign rfl) rfl ?_
        refine K_nil ?_
        refine Q_then ?_
        refine K_seq ?_
        refine K_seq ?_
        refine K_region ?_
        refine KV (R_move rfl) rfl ?_
        refine KV (R_cmp rfl rfl rfl) rfl ?_
        refine K_nil ?_
        refine Q_then ?_
        cases hu' : Tr.relabel to ts[k] with
        | none =>
          rw [hu'] at hres
          obtain ⟨rfl, _⟩ := hres
          refine K_ifT rfl ?_
          refine K_seq ?_
          refine K_region ?_
          refine KV (R_build z30 pl30 rfl rfl) rfl ?_
          refine KV (R_move rfl) rfl ?_
          refine K_store ty30 4 rfl rfl rfl rfl rfl rfl ?_
          refine KV (R_assign rfl) rfl ?_
          refine K_nil ?_
          refine Q_then ?_
          refine K_ret ?_
          refine Q_then_ret ?_
          refine Q_block_ret ?_
          refine Q_then_ret ?_
          refine Q_then_ret ?_
          refine Q_block_ret ?_
          refine Q_then_ret ?_
          refine results_gen (rs := [.cell 4 30, .tmp 5]) (vs := [_, _]) rfl ⟨⟨_, _, _, _, _, _, 4, rfl, rfl, ty30, (fun e => by cases e), rfl, rfl⟩, ⟨rfl, trivial⟩⟩ ?_
          refine ⟨_, _, rfl, ?_⟩
          rw [hunf, Tr.relabels_none hrl hlt' hu']
          exact ⟨rfl, h0 _⟩
        | some u' =>
          rw [hu'] at hres
          obtain ⟨rfl, hds⟩ := hres
          refine K_ifF rfl ?_
          refine K_skip ?_
          refine Q_then ?_
          refine K_region ?_
          refine KV (R_fieldAddr 1 fd30_1 rfl) rfl ?_
          refine KV (R_loadO ty28 3 rfl rfl rfl rfl (fun _ => rfl) rfl) rfl ?_
          refine KV (R_loadO ty30 0 rfl rfl rfl rfl (fun e => by cases e) rfl) rfl ?_
          refine KA (A_buildSlice (vs := [.agg #[.int .i64 x0, .slice x1 x2 x3]]) sl28 ty30 z30 rfl rfl (by simp [Value.cells]) (by simp) rfl (by decide)) rfl fun b48 => ?_
          refine K_append1 2 ap28 rfl rfl rfl rfl rfl rfl ⟨by omega, by omega⟩ rfl fun a49 k49 hn49 => ?_
          refine KV (R_fieldAddr 1 fd30_1 rfl) rfl ?_
          refine K_store ty28 3 rfl rfl rfl rfl rfl rfl ?_
          refine K_nil ?_
          refine Q_block ?_
          refine Q_then ?_
          refine K_region ?_
          refine KV (R_add rfl rfl (by omega)) rfl ?_
          refine KV (R_move rfl) rfl ?_
          refine K_nil ?_
          refine KQ_sel [0, 2, 2, 2] rfl ?_
          refine Q_next (k + 1, V', .slice a49 (k + 1) k49, xs ++ [.int .i64 x0, .slice x1 x2 x3], us ++ [u']) ⟨hlt', hV.trans hle2, ?_, ⟨_, _, rfl⟩, Tr.relabels_some hrl hlt' hu', by simp [hul]⟩ (by dsimp only; omega) ⟨rfl, rfl, rfl, rfl, rfl, rfl, rfl, trivial⟩ rfl rfl
          exact (hL.imp fun x cs h => h.mono hle2).snoc hds hds.two
      ·
        have hk' : k = ts.length := by omega
        subst hk'
        rw [List.take_length] at hrl
        refine K_exit ?_
        refine Q_then_exit ?_
        refine Q_then_exit ?_
        refine Q_block_exit ?_
        refine Q_then ?_
        refine K_seq ?_
        refine K_region ?_
        refine KV (R_loadO ty30 1 rfl rfl rfl rfl (fun e => by cases e) rfl) rfl ?_
        refine K_store ty30 2 rfl rfl rfl rfl rfl rfl ?_
        refine KV (R_assign rfl) rfl ?_
        refine K_nil ?_
        refine Q_then ?_
        refine K_ret ?_
        refine KQ_pubrow rfl fun Hp hp hrow => ?_
        refine results_gen (rs := [.cell 4 30, .tmp 5]) (vs := [_, _]) rfl ⟨⟨_, _, _, _, _, _, 1, rfl, rfl, ty30, (fun e => by cases e), rfl, rfl⟩, ⟨rfl, trivial⟩⟩ ?_
        refine ⟨_, _, rfl, ?_⟩
        rw [hunf, hrl, hgd]
        exact ⟨rfl, .of (hto.2 _ (List.getElem_mem hs2)) (hul ▸ hrow.sl) (hL.imp fun x cs h => h.mono hp)⟩
end Go.Proofs.X
