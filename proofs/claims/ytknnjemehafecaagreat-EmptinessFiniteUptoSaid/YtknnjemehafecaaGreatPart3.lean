/-
  Part of the proof: rules for walks, contracts of the functions that the statements reach, plain laws. Own work. No statement of the seat is proved here.
-/
import Derived.Test.YtknnjemehafecaaGreatPart2
import Derived.Test.YtknnjemehafecaaGreatPart1
namespace Go.Proofs.X
open Go Pal Go.Proofs
attribute [local irreducible] Pal.KO Pal.KC Pal.KQ Pal.KD
theorem ty22 : Ty Tryz.prog T22 false 1 := .of (by kernel_rfl)
theorem ty24 : Ty Tryz.prog T24 true 2 := .of (by kernel_rfl)
theorem ty28 : Ty Tryz.prog T28 false 1 := .of (by kernel_rfl)
theorem ty30 : Ty Tryz.prog T30 true 2 := .of (by kernel_rfl)
theorem sl22 : slcOk Tryz.prog T22 T24 := by unfold slcOk; kernel_rfl
theorem sl28 : slcOk Tryz.prog T28 T30 := by unfold slcOk; kernel_rfl
theorem fd24_0 : fldOk Tryz.prog T24 0 0 = true := by kernel_rfl
theorem fd24_1 : fldOk Tryz.prog T24 1 1 = true := by kernel_rfl
theorem fd30_1 : fldOk Tryz.prog T30 1 1 = true := by kernel_rfl
theorem z30 : zeroOk Tryz.prog T30 (.agg #[.int .i64 0, .slice none 0 0]) := .of (by kernel_rfl)
theorem pl30 : placesOk Tryz.prog T30 [(0, 1), (1, 1)] := ⟨_, Tryz.underlying39, by kernel_rfl⟩
theorem c8 : callable Tryz.prog F8 = true := by kernel_rfl
theorem c9 : callable Tryz.prog F9 = true := by kernel_rfl
theorem c11 : callable Tryz.prog F11 = true := by kernel_rfl
theorem ap28 : App Tryz.prog T28 T30 2 32 := .of sl28 (by kernel_rfl)
theorem size_spec : ∀ m t H cs, t.size ≤ m → m ≤ 1099511627776 → RepT H t cs → Sat Tryz.prog F8 #[.agg cs.toArray] H (fun v _ => v = .int .i64 (t.size : Int)) := by
  intro m
  induction m with
  | zero => intro t H cs h; have := t.size_pos; omega
  | succ m ih =>
  intro t H cs hm hb hr
  cases hr with | mk s ts a cap b off cs' hs ha hA hrec =>
  have hsz : (Tr.node s ts).size = 1 + Tr.sizes ts := rfl
  refine enterO (n := 21) (args := [.agg #[.int .i64 s, .slice a ts.length cap]]) Tryz.func32 rfl rfl rfl fun w0 => ?_
  refine K_seq ?_
  refine K_region ?_
  refine KA (A_box rfl) rfl fun b1 => ?_
  refine KV (R_assign rfl) rfl ?_
  refine K_nil ?_
  refine Q_then ?_
  refine K_seq ?_
  refine K_region ?_
  refine KV (R_assign rfl) rfl ?_
  refine K_nil ?_
  refine Q_then ?_
  refine K_seq ?_
  refine K_seq ?_
  refine K_region ?_
  refine KV (R_assign rfl) rfl ?_
  refine K_nil ?_
  refine Q_then ?_
  refine K_block ?_
  refine K_loop (G := Nat × View) ⟨fun g => [(1, .pointer (some ⟨b1, 0, none⟩)), (3, .int .i64 (1 + (Tr.sizes (ts.take g.1) : Int))), (4, .int .i64 (g.1 : Int))], fun g => [blk b1 (.cells #[.int .i64 s, .slice a ts.length cap] T24 (0, 0))], fun g => g.2, fun g => g.1 ≤ ts.length ∧ VLe H g.2, fun g => ts.length - g.1⟩ (0, H) ⟨Nat.zero_le _, VLe.refl H⟩ ⟨rfl, rfl, rfl, trivial⟩ rfl rfl ?_
  rintro ⟨k, V⟩ ⟨hk, hV⟩
  dsimp only at hk hV ⊢
  refine K_seq ?_
  refine K_seq ?_
  refine K_region ?_
  refine KV (R_move rfl) rfl ?_
  refine KV (R_fieldAddr 1 fd24_1 rfl) rfl ?_
  refine KV (R_loadO ty22 0 rfl rfl rfl rfl (fun _ => rfl) rfl) rfl ?_
  refine KV (R_len sl22 rfl) rfl ?_
  refine KV (R_cmp rfl rfl rfl) rfl ?_
  refine K_nil ?_
  refine Q_then ?_
  refine K_if rfl (fun hlt => ?_) (fun hlt => ?_)
  ·
    have hlt' : k < ts.length := by omega
    have hle := Tr.sizes_take_le ts (k + 1)
    have hln := Tr.length_le_sizes ts
    have htk := Tr.sizes_take ts k hlt'
    have ha' := ha (by intro e; subst e; simp at hlt')
    subst ha'
    refine K_skip ?_
    refine Q_then ?_
    refine K_seq ?_
    refine K_block ?_
    refine K_region ?_
    refine KV (R_move rfl) rfl ?_
    refine KV (R_fieldAddr 1 fd24_1 rfl) rfl ?_
    refine KV (R_loadO ty22 0 rfl rfl rfl rfl (fun _ => rfl) rfl) rfl ?_
    refine KV (R_move rfl) rfl ?_
    refine KV (R_indexN sl22 ty24 rfl rfl (by omega)) rfl ?_
    refine KV (R_loadH ty24 rfl ((hA k hlt').2.mono hV) (hA k hlt').1 (fun e => by cases e) rfl) rfl ?_
    refine K_call c8 rfl rfl (ih ts[k] V (cs' k) (by omega) (by omega) ((hrec k hlt').mono hV)) ?_
    rintro u V' hle2 rfl
    refine KV (R_add rfl rfl (by omega)) rfl ?_
    refine KV (R_assign rfl) rfl ?_
    refine K_nil ?_
    refine Q_block ?_
    refine Q_then ?_
    refine K_region ?_
    refine KV (R_move rfl) rfl ?_
    refine KV (R_add rfl rfl (by omega)) rfl ?_
    refine KV (R_assign rfl) rfl ?_
    refine K_nil ?_
    refine Q_next (k + 1, V') ⟨hlt', hV.trans hle2⟩ (by dsimp only; omega) ⟨rfl, ?_, rfl, trivial⟩ rfl rfl
    refine congrArg (fun z => some (Value.int .i64 z)) ?_
    dsimp only
    omega
  ·
    have hk' : k = ts.length := by omega
    subst hk'
    refine K_exit ?_
    refine Q_then_exit ?_
    refine Q_then_exit ?_
    refine Q_block_exit ?_
    refine Q_then ?_
    refine K_seq ?_
    refine K_region ?_
    refine KV (R_move rfl) rfl ?_
    refine KV (R_assign rfl) rfl ?_
    refine K_nil ?_
    refine Q_then ?_
    refine K_ret ?_
    refine results_gen (rs := [.tmp 2]) (vs := [_]) rfl ⟨rfl, trivial⟩ ?_
    rw [List.take_length]
    simp [tupV, Tr.size]

theorem deep_spec : ∀ m t H cs, t.size ≤ m → m ≤ 1099511627776 → RepT H t cs → Sat Tryz.prog F9 #[.agg cs.toArray] H (fun v _ => v = .int .i64 (t.deep : Int)) := by
  intro m
  induction m with
  | zero => intro t H cs h; have := t.size_pos; omega
  | succ m ih =>
  intro t H cs hm hb hr
  cases hr with | mk s ts a cap b off cs' hs ha hA hrec =>
  have hsz : (Tr.node s ts).size = 1 + Tr.sizes ts := rfl
  have hdl := Tr.deeps_le ts
  refine enterO (n := 25) (args := [.agg #[.int .i64 s, .slice a ts.length cap]]) Tryz.func34 rfl rfl rfl fun w0 => ?_
  refine K_seq ?_
  refine K_region ?_
  refine KA (A_box rfl) rfl fun b1 => ?_
  refine KV (R_assign rfl) rfl ?_
  refine K_nil ?_
  refine Q_then ?_
  refine K_seq ?_
  refine K_region ?_
  refine KV (R_assign rfl) rfl ?_
  refine K_nil ?_
  refine Q_then ?_
  refine K_seq ?_
  refine K_seq ?_
  refine K_region ?_
  refine KV (R_assign rfl) rfl ?_
  refine K_nil ?_
  refine Q_then ?_
  refine K_block ?_
  refine K_loop (G := Nat × View) ⟨fun g => [(1, .pointer (some ⟨b1, 0, none⟩)), (3, .int .i64 (Tr.deeps (ts.take g.1) : Int)), (4, .int .i64 (g.1 : Int))], fun g => [blk b1 (.cells #[.int .i64 s, .slice a ts.length cap] T24 (0, 0))], fun g => g.2, fun g => g.1 ≤ ts.length ∧ VLe H g.2, fun g => ts.length - g.1⟩ (0, H) ⟨Nat.zero_le _, VLe.refl H⟩ ⟨rfl, rfl, rfl, trivial⟩ rfl rfl ?_
  rintro ⟨k, V⟩ ⟨hk, hV⟩
  dsimp only at hk hV ⊢
  refine K_seq ?_
  refine K_seq ?_
  refine K_region ?_
  refine KV (R_move rfl) rfl ?_
  refine KV (R_fieldAddr 1 fd24_1 rfl) rfl ?_
  refine KV (R_loadO ty22 0 rfl rfl rfl rfl (fun _ => rfl) rfl) rfl ?_
  refine KV (R_len sl22 rfl) rfl ?_
  refine KV (R_cmp rfl rfl rfl) rfl ?_
  refine K_nil ?_
  refine Q_then ?_
  refine K_if rfl (fun hlt => ?_) (fun hlt => ?_)
  ·
    have hlt' : k < ts.length := by omega
    have hln := Tr.length_le_sizes ts
    have htk := Tr.sizes_take ts k hlt'
    have hle := Tr.sizes_take_le ts (k + 1)
    have hdk := Tr.deeps_take ts k hlt'
    have ha' := ha (by intro e; subst e; simp at hlt')
    subst ha'
    refine K_skip ?_
    refine Q_then ?_
    refine K_seq ?_
    refine K_block ?_
    refine K_seq ?_
    refine K_region ?_
    refine KV (R_fieldAddr 1 fd24_1 rfl) rfl ?_
    refine KV (R_loadO ty22 0 rfl rfl rfl rfl (fun _ => rfl) rfl) rfl ?_
    refine KV (R_move rfl) rfl ?_
    refine KV (R_indexN sl22 ty24 rfl rfl (by omega)) rfl ?_
    refine KV (R_loadH ty24 rfl ((hA k hlt').2.mono hV) (hA k hlt').1 (fun e => by cases e) rfl) rfl ?_
    refine K_call c9 rfl rfl (ih ts[k] V (cs' k) (by omega) (by omega) ((hrec k hlt').mono hV)) ?_
    rintro u V' hle2 rfl
    refine KV (R_assign rfl) rfl ?_
    refine K_nil ?_
    refine Q_then ?_
    refine K_seq ?_
    refine K_region ?_
    refine KV (R_move rfl) rfl ?_
    refine KV (R_move rfl) rfl ?_
    refine KV (R_cmp rfl rfl rfl) rfl ?_
    refine K_nil ?_
    refine Q_then ?_
    refine K_if rfl (fun hgt => ?_) (fun hgt => ?_)
    ·
      refine K_region ?_
      refine KV (R_move rfl) rfl ?_
      refine KV (R_assign rfl) rfl ?_
      refine K_nil ?_
      refine Q_block ?_
      refine Q_then ?_
      refine K_region ?_
      refine KV (R_move rfl) rfl ?_
      refine KV (R_add rfl rfl (by omega)) rfl ?_
      refine KV (R_assign rfl) rfl ?_
      refine K_nil ?_
      refine Q_next (k + 1, V') ⟨hlt', hV.trans hle2⟩ (by dsimp only; omega) ⟨rfl, ?_, rfl, trivial⟩ rfl rfl
      refine congrArg (fun z => some (Value.int .i64 z)) ?_
      dsimp only
      omega
    ·
      refine K_skip ?_
      refine Q_block ?_
      refine Q_then ?_
      refine K_region ?_
      refine KV (R_move rfl) rfl ?_
      refine KV (R_add rfl rfl (by omega)) rfl ?_
      refine KV (R_assign rfl) rfl ?_
      refine K_nil ?_
      refine Q_next (k + 1, V') ⟨hlt', hV.trans hle2⟩ (by dsimp only; omega) ⟨rfl, ?_, rfl, trivial⟩ rfl rfl
      refine congrArg (fun z => some (Value.int .i64 z)) ?_
      dsimp only
      omega
  ·
    have hk' : k = ts.length := by omega
    subst hk'
    rw [List.take_length]
    refine K_exit ?_
    refine Q_then_exit ?_
    refine Q_then_exit ?_
    refine Q_block_exit ?_
    refine Q_then ?_
    refine K_seq ?_
    refine K_region ?_
    refine KV (R_move rfl) rfl ?_
    refine KV (R_add rfl rfl (by omega)) rfl ?_
    refine KV (R_assign rfl) rfl ?_
    refine K_nil ?_
    refine Q_then ?_
    refine K_ret ?_
    refine results_gen (rs := [.tmp 2]) (vs := [_]) rfl ⟨rfl, trivial⟩ ?_
    simp [tupV, Tr.deep]

theorem tree_spec : ∀ m t H cs, t.size ≤ m → m ≤ 1099511627776 → RepT H t cs → Sat Tryz.prog F11 #[.agg cs.toArray] H (fun v H' => ∃ ds, v = .agg ds.toArray ∧ RepT H' t ds) := by
  intro m
  induction m with
  | zero => intro t H cs h; have := t.size_pos; omega
  | succ m ih =>
  intro t H cs hm hb hr
  cases hr with | mk s ts a cap b off cs' hs ha hA hrec =>
  have hsz : (Tr.node s ts).size = 1 + Tr.sizes ts := rfl
  have hln := Tr.length_le_sizes ts
  refine enterO (n := 27) (args := [.agg #[.int .i64 s, .slice a ts.length cap]]) Tryz.func18 rfl rfl rfl fun w0 => ?_
  refine K_seq ?_
  refine K_region ?_
  refine KA (A_box rfl) rfl fun b1 => ?_
  refine KA (A_alloc z30) rfl fun b2 => ?_
  refine K_nil ?_
  refine Q_then ?_
  refine K_seq ?_
  refine K_region ?_
  refine KV (R_fieldAddr 0 fd24_0 rfl) rfl ?_
  refine KV (R_loadO ty3 1 rfl rfl rfl rfl (fun _ => rfl) rfl) rfl ?_
  refine KV (R_build z30 pl30 rfl rfl) rfl ?_
  refine KA (A_alloc z30) rfl fun b3 => ?_
  refine K_store ty30 0 rfl rfl rfl rfl rfl rfl ?_
  refine K_nil ?_
  refine Q_then ?_
  refine K_seq ?_
  refine K_seq ?_
  refine K_region ?_
  refine KV (R_assign rfl) rfl ?_
  refine K_nil ?_
  refine Q_then ?_
  refine K_block ?_
  refine K_nilrow T30 2 ?_
  refine K_loop (G := Nat × View × Value × List Value) ⟨fun g => [(1, ptr b1), (2, ptr b2), (3, ptr b3), (4, .int .i64 (g.1 : Int))], fun g => [row g.2.2.1 T30 2 g.1 g.2.2.2, blk b3 (.cells #[.int .i64 s, g.2.2.1] T30 (0, 0)), blk b2 (.cells #[.int .i64 0, .slice none 0 0] T30 (0, 0)), blk b1 (.cells #[.int .i64 s, .slice a ts.length cap] T24 (0, 0))], fun g => g.2.1, fun g => g.1 ≤ ts.length ∧ VLe H g.2.1 ∧ RepL (RepT g.2.1) 2 (ts.take g.1) g.2.2.2 ∧ ∃ a c, g.2.2.1 = .slice a g.1 c, fun g => ts.length - g.1⟩ (0, H, nilS, []) ⟨Nat.zero_le _, VLe.refl H, .nil, _, _, rfl⟩ ⟨rfl, rfl, rfl, rfl, trivial⟩ rfl rfl ?_
  rintro ⟨k, V, rv, xs⟩ ⟨hk, hV, hL, hrv⟩
  dsimp only at hk hV hL hrv ⊢
  obtain ⟨ra, rc, rfl⟩ := hrv
  refine K_seq ?_
  refine K_seq ?_
  refine K_region ?_
  refine KV (R_move rfl) rfl ?_
  refine KV (R_fieldAddr 1 fd24_1 rfl) rfl ?_
  refine KV (R_loadO ty22 3 rfl rfl rfl rfl (fun _ => rfl) rfl) rfl ?_
  refine KV (R_len sl22 rfl) rfl ?_
  refine KV (R_cmp rfl rfl rfl) rfl ?_
  refine K_nil ?_
  refine Q_then ?_
  refine K_if rfl (fun hlt => ?_) (fun hlt => ?_)
  ·
    have hlt' : k < ts.length := by omega
    have htk := Tr.sizes_take ts k hlt'
    have hle := Tr.sizes_take_le ts (k + 1)
    have ha' := ha (by intro e; subst e; simp at hlt')
    subst ha'
    refine K_skip ?_
    refine Q_then ?_
    refine K_seq ?_
    refine K_block ?_
    refine K_regionD (fin := true) (R := [0, 1, 2, 3, 4, 5, 6, 7, 8, 9, 10, 11]) (by kernel_rfl) mixed (.cons _ (.cons_cons _ (.cons _ (.cons_cons _ (List.nil_sublist _))))) ?_
    refine D_val rfl rfl rfl (R_fieldAddr 1 fd30_1 rfl) ?_
    refine D_val rfl rfl rfl (R_loadO ty28 0 rfl rfl rfl rfl (fun _ => rfl) rfl) ?_
    refine D_val rfl rfl rfl (R_fieldAddr 1 fd24_1 rfl) ?_
    refine D_val rfl rfl rfl (R_loadO ty22 1 rfl rfl rfl rfl (fun _ => rfl) rfl) ?_
    refine D_val rfl rfl rfl (R_move rfl) ?_
    refine D_val rfl rfl rfl (R_indexN sl22 ty24 rfl rfl (by omega)) ?_
    refine D_val rfl rfl rfl (R_loadH ty24 rfl ((hA k hlt').2.mono hV) (hA k hlt').1 (fun e => by cases e) rfl) ?_
    refine D_call rfl rfl c11 rfl ⟨⟨1, rfl⟩, ⟨3, rfl⟩, trivial⟩ (ih ts[k] V (cs' k) (by omega) (by omega) ((hrec k hlt').mono hV)) ?_
    rintro u V' hle2 ⟨ds, rfl, hds⟩
    obtain ⟨x0, x1, x2, x3, rfl⟩ := hds.shape
    refine D_alloc rfl rfl rfl (A_buildSlice (vs := [.agg #[.int .i64 x0, .slice x1 x2 x3]]) sl28 ty30 z30 rfl rfl (by simp [Value.cells]) (by simp) rfl (by decide)) fun b23 => ?_
    refine D_append1 0 ap28 rfl rfl rfl rfl rfl rfl ⟨⟨0, rfl⟩, ⟨2, rfl⟩, trivial⟩ rfl rfl ⟨by omega, by omega⟩ fun a24 k24 hn24 => ?_
    refine D_val rfl rfl rfl (R_fieldAddr 1 fd30_1 rfl) ?_
    refine D_lastStore ty28 1 rfl rfl rfl rfl rfl rfl rfl rfl ?_
    refine Q_block ?_
    refine Q_then ?_
    refine K_region ?_
    refine KV (R_move rfl) rfl ?_
    refine KV (R_add rfl rfl (by omega)) rfl ?_
    refine KV (R_assign rfl) rfl ?_
    refine K_nil ?_
    refine Q_next (k + 1, V', .slice a24 (k + 1) k24, xs ++ [.int .i64 x0, .slice x1 x2 x3]) ⟨hlt', hV.trans hle2, ?_, _, _, rfl⟩ (by dsimp only; omega) ⟨rfl, rfl, rfl, rfl, trivial⟩ rfl rfl
    dsimp only
    rw [List.take_succ_eq_append_getElem hlt']
    exact (hL.imp fun x cs h => h.mono hle2).snoc hds hds.two
  ·
    have hk' : k = ts.length := by omega
    subst hk'
    rw [List.take_length] at hL
    refine K_exit ?_
    refine Q_then_exit ?_
    refine Q_then_exit ?_
    refine Q_block_exit ?_
    refine Q_then ?_
    refine K_seq ?_
    refine K_region ?_
    refine KV (R_loadO ty30 1 rfl rfl rfl rfl (fun e => by cases e) rfl) rfl ?_
    refine K_store ty30 2 rfl rfl rfl rfl rfl rfl ?_
    refine K_nil ?_
    refine Q_then ?_
    refine K_ret ?_
    refine KQ_pubrow rfl fun Hp hp hrow => ?_
    refine results_gen (rs := [.cell 2 39]) (vs := [_]) rfl ⟨⟨_, _, _, _, _, _, 1, rfl, rfl, ty30, (fun e => by cases e), rfl, rfl⟩, trivial⟩ ?_
    exact ⟨_, rfl, .of hs hrow.sl (hL.imp fun x cs h => h.mono hp)⟩

end Go.Proofs.X

namespace Go.Proofs.X
open Go Pal Go.Proofs
attribute [local irreducible] Pal.KO Pal.KC Pal.KQ Pal.KD
theorem z3 : zeroOk Tryz.prog T3 (.int .i64 0) := .of (by kernel_rfl)
theorem c2 : callable Tryz.prog F2 = true := by kernel_rfl
theorem ap25 : App Tryz.prog T25 T3 1 8 := .of sl25 (by kernel_rfl)
theorem ap47 : App Tryz.prog T47 T3 1 8 := .of sl47 (by kernel_rfl)
theorem clone47_spec (xs : List Int) (v : Value) (H : View) (hv : SI H v xs) (hl : xs.length ≤ 1099511627776) : Sat Tryz.prog F45 #[v] H (fun w H' => SI H' w xs) := by
  obtain ⟨a, cp, rfl⟩ := hv.shape
  refine enterO (n := 8) (args := [.slice a xs.length cp]) Tryz.func85 rfl rfl rfl fun w0 => ?_
  refine K_seq ?_
  refine K_region ?_
  refine KV (R_assign rfl) rfl ?_
  refine K_nil ?_
  refine Q_then ?_
  refine K_seq ?_
  refine K_seq ?_
  refine K_region ?_
  refine KV (R_move rfl) rfl ?_
  refine KV (R_sliceNil sl47 rfl rfl) rfl ?_
  refine K_nil ?_
  refine Q_then ?_
  cases a with
  | none =>
    obtain ⟨a2, c2, h2, h3⟩ := hv.1
    cases h2
    have hx0 : xs = [] := by
      rcases h3 with ⟨h3, _⟩ | ⟨b, off, h3, _⟩
      · exact List.eq_nil_of_length_eq_zero h3
      · cases h3
    subst hx0
    refine K_ifT rfl ?_
    refine K_seq ?_
    refine K_region ?_
    refine KV (R_assign rfl) rfl ?_
    refine K_nil ?_
    refine Q_then ?_
    refine K_ret ?_
    refine Q_then_ret ?_
    refine results_gen (rs := [.tmp 2]) (vs := [_]) rfl ⟨rfl, trivial⟩ ?_
    exact ⟨⟨none, 0, rfl, .inl ⟨rfl, rfl⟩⟩, by simp⟩
  | some aa =>
    refine K_ifF rfl ?_
    refine K_skip ?_
    refine Q_then ?_
    refine K_seq ?_
    refine K_region ?_
    refine KA (A_buildSlice (vs := []) sl47 ty3 z3 rfl rfl (by simp) (by simp) rfl (by decide)) rfl fun b5 => ?_
    refine KV (R_move rfl) rfl ?_
    refine K_appendPubH (k := 0) (xs := []) ap47 rfl ⟨_, 0, rfl, .inl ⟨rfl, rfl⟩⟩ rfl rfl hv.1 (by simp [ints]) ⟨by omega, by omega⟩ rfl fun v7 V1 hle1 hv7 => ?_
    refine KV (R_assign rfl) rfl ?_
    refine K_nil ?_
    refine Q_then ?_
    refine K_ret ?_
    refine results_gen (rs := [.tmp 2]) (vs := [_]) rfl ⟨rfl, trivial⟩ ?_
    refine ⟨?_, hv.2⟩
    have h7 := hv7.1
    rw [Nat.zero_add, List.nil_append] at h7
    exact h7

end Go.Proofs.X

namespace Go.Proofs.X
open Go Pal Go.Proofs
attribute [local irreducible] Pal.KO Pal.KC Pal.KQ Pal.KD

theorem cmpl_spec (xs ys : List Int) (v w : Value) (H : View) (hv : SI H v xs) (hw : SI H w ys) (hx : xs.length ≤ 1099511627776) (hy : ys.length ≤ 1099511627776) : Sat Tryz.prog F60 #[v, w] H (fun r _ => r = .int .i64 (cmpL xs ys)) := by
  obtain ⟨xa, xcp, rfl⟩ := hv.shape
  obtain ⟨ya, ycp, rfl⟩ := hw.shape
  refine enterO (n := 46) (args := [.slice xa xs.length xcp, .slice ya ys.length ycp]) Tryz.func136 rfl rfl rfl fun w0 => ?_
  refine K_seq ?_
  refine K_region ?_
  refine KV (R_assign rfl) rfl ?_
  refine K_nil ?_
  refine Q_then ?_
  refine K_seq ?_
  refine K_seq ?_
  refine K_region ?_
  refine KV (R_assign rfl) rfl ?_
  refine K_nil ?_
  refine Q_then ?_
  refine K_block ?_
  refine K_loop (G := Nat) ⟨fun g => [(0, .slice xa xs.length xcp), (1, .slice ya ys.length ycp), (5, .int .i64 (g : Int))], fun g => [], fun g => H, fun g => g ≤ xs.length ∧ g ≤ ys.length ∧ cmpL xs ys = cmpL (xs.drop g) (ys.drop g), fun g => xs.length - g⟩ 0 ⟨Nat.zero_le _, Nat.zero_le _, rfl⟩ ⟨rfl, rfl, rfl, trivial⟩ rfl rfl ?_
  rintro k ⟨hk1, hk2, hc⟩
  dsimp only at hk1 hk2 hc ⊢
  refine K_seq ?_
  refine K_seq ?_
  refine K_region ?_
  refine KV (R_move rfl) rfl ?_
  refine KV (R_move rfl) rfl ?_
  refine KV (R_len sl25 rfl) rfl ?_
  refine KV (R_cmp rfl rfl rfl) rfl ?_
  refine KV (R_move rfl) rfl ?_
  refine K_split ?_ ?_
  ·
    intro h10
    refine K_gyes rfl rfl ?_
    refine KV (R_move rfl) rfl ?_
    refine K_gyes rfl rfl ?_
    refine KV (R_move rfl) rfl ?_
    refine K_gyes rfl rfl ?_
    refine KV (R_len sl25 rfl) rfl ?_
    refine K_gyes rfl rfl ?_
    refine KV (R_cmp rfl rfl rfl) rfl ?_
    refine KV (R_pickT rfl rfl) rfl ?_
    refine K_nil ?_
    refine Q_then ?_
    refine K_if rfl (fun h15 => ?_) (fun h15 => ?_)
    ·
      have hx1 : k < xs.length := by omega
      have hy1 : k < ys.length := by omega
      obtain ⟨xb, xo, rfl, hxa⟩ := hv.get hx1
      obtain ⟨yb, yo, rfl, hya⟩ := hw.get hy1
      have hcx : cmpL (xs.drop k) (ys.drop k) = if xs[k] < ys[k] then -1 else if ys[k] < xs[k] then 1 else cmpL (xs.drop (k + 1)) (ys.drop (k + 1)) := by
        rw [List.drop_eq_getElem_cons hx1, List.drop_eq_getElem_cons hy1]; rfl
      refine K_skip ?_
      refine Q_then ?_
      refine K_seq ?_
      refine K_block ?_
      refine K_seq ?_
      refine K_seq ?_
      refine K_regionD (fin := false) (R := [0, 1, 2, 3, 4, 5, 6, 7, 8]) (by kernel_rfl) mixed (List.nil_sublist _) ?_
      refine D_val rfl rfl rfl (R_move rfl) ?_
      refine D_val rfl rfl rfl (R_move rfl) ?_
      refine D_val rfl rfl rfl (R_indexN sl25 ty3 rfl rfl (by omega)) ?_
      refine D_val rfl rfl rfl (R_loadH ty3 rfl (hxa) rfl (fun _ => rfl) rfl) ?_
      refine D_val rfl rfl rfl (R_move rfl) ?_
      refine D_val rfl rfl rfl (R_move rfl) ?_
      refine D_val rfl rfl rfl (R_indexN sl25 ty3 rfl rfl (by omega)) ?_
      refine D_val rfl rfl rfl (R_loadH ty3 rfl (hya) rfl (fun _ => rfl) rfl) ?_
      refine D_val rfl rfl rfl (R_cmp rfl rfl rfl) ?_
      refine D_done ?_
      refine Q_then ?_
      refine K_if rfl (fun h26 => ?_) (fun h26 => ?_)
      ·
        refine K_seq ?_
        refine K_region ?_
        refine KV (R_assign rfl) rfl ?_
        refine K_nil ?_
        refine Q_then ?_
        refine K_ret ?_
        refine Q_then_ret ?_
        refine Q_block_ret ?_
        refine Q_then_ret ?_
        refine Q_then_ret ?_
        refine Q_block_ret ?_
        refine Q_then_ret ?_
        refine results_gen (rs := [.tmp 4]) (vs := [_]) rfl ⟨rfl, trivial⟩ ?_
        rw [hc, hcx, if_pos h26]
        rfl
      ·
        refine K_skip ?_
        refine Q_then ?_
        refine K_seq ?_
        refine K_regionD (fin := false) (R := [0, 1, 2, 3, 4, 5, 6, 7, 8]) (by kernel_rfl) mixed (List.nil_sublist _) ?_
        refine D_val rfl rfl rfl (R_move rfl) ?_
        refine D_val rfl rfl rfl (R_move rfl) ?_
        refine D_val rfl rfl rfl (R_indexN sl25 ty3 rfl rfl (by omega)) ?_
        refine D_val rfl rfl rfl (R_loadH ty3 rfl (hxa) rfl (fun _ => rfl) rfl) ?_
        refine D_val rfl rfl rfl (R_move rfl) ?_
        refine D_val rfl rfl rfl (R_move rfl) ?_
        refine D_val rfl rfl rfl (R_indexN sl25 ty3 rfl rfl (by omega)) ?_
        refine D_val rfl rfl rfl (R_loadH ty3 rfl (hya) rfl (fun _ => rfl) rfl) ?_
        refine D_val rfl rfl rfl (R_cmp rfl rfl rfl) ?_
        refine D_done ?_
        refine Q_then ?_
        refine K_if rfl (fun h35 => ?_) (fun h35 => ?_)
        ·
          refine K_seq ?_
          refine K_region ?_
          refine KV (R_assign rfl) rfl ?_
          refine K_nil ?_
          refine Q_then ?_
          refine K_ret ?_
          refine Q_block_ret ?_
          refine Q_then_ret ?_
          refine Q_then_ret ?_
          refine Q_block_ret ?_
          refine Q_then_ret ?_
          refine results_gen (rs := [.tmp 4]) (vs := [_]) rfl ⟨rfl, trivial⟩ ?_
          rw [hc, hcx, if_neg h26, if_pos h35]
          rfl
        ·
          refine K_skip ?_
          refine Q_block ?_
          refine Q_then ?_
          refine K_region ?_
          refine KV (R_move rfl) rfl ?_
          refine KV (R_add rfl rfl (by omega)) rfl ?_
          refine KV (R_assign rfl) rfl ?_
          refine K_nil ?_
          exact Q_next (k + 1) ⟨hx1, hy1, by rw [hc, hcx, if_neg h26, if_neg h35]⟩ (by dsimp only; omega) ⟨rfl, rfl, rfl, trivial⟩ rfl rfl
    ·
      have hend := cmpL_end hk1 hk2 (.inr (by omega))
      refine K_exit ?_
      refine Q_then_exit ?_
      refine Q_then_exit ?_
      refine Q_block_exit ?_
      refine Q_then ?_
      refine K_seq ?_
      refine K_seq ?_
      refine K_region ?_
      refine KV (R_move rfl) rfl ?_
      refine KV (R_len sl25 rfl) rfl ?_
      refine KV (R_move rfl) rfl ?_
      refine KV (R_len sl25 rfl) rfl ?_
      refine KV (R_cmp rfl rfl rfl) rfl ?_
      refine K_nil ?_
      refine Q_then ?_
      refine K_if rfl (fun h40 => ?_) (fun h40 => ?_)
      ·
        refine K_seq ?_
        refine K_region ?_
        refine KV (R_assign rfl) rfl ?_
        refine K_nil ?_
        refine Q_then ?_
        refine K_ret ?_
        refine Q_then_ret ?_
        refine results_gen (rs := [.tmp 4]) (vs := [_]) rfl ⟨rfl, trivial⟩ ?_
        rw [hc, hend, if_pos (by omega)]
        rfl
      ·
        refine K_skip ?_
        refine Q_then ?_
        refine K_seq ?_
        refine K_seq ?_
        refine K_region ?_
        refine KV (R_move rfl) rfl ?_
        refine KV (R_len sl25 rfl) rfl ?_
        refine KV (R_move rfl) rfl ?_
        refine KV (R_len sl25 rfl) rfl ?_
        refine KV (R_cmp rfl rfl rfl) rfl ?_
        refine K_nil ?_
        refine Q_then ?_
        refine K_if rfl (fun h45 => ?_) (fun h45 => ?_)
        ·
          refine K_seq ?_
          refine K_region ?_
          refine KV (R_assign rfl) rfl ?_
          refine K_nil ?_
          refine Q_then ?_
          refine K_ret ?_
          refine Q_then_ret ?_
          refine results_gen (rs := [.tmp 4]) (vs := [_]) rfl ⟨rfl, trivial⟩ ?_
          rw [hc, hend, if_neg (by omega), if_pos (by omega)]
          rfl
        ·
          refine K_skip ?_
          refine Q_then ?_
          refine K_seq ?_
          refine K_region ?_
          refine KV (R_assign rfl) rfl ?_
          refine K_nil ?_
          refine Q_then ?_
          refine K_ret ?_
          refine results_gen (rs := [.tmp 4]) (vs := [_]) rfl ⟨rfl, trivial⟩ ?_
          rw [hc, hend, if_neg (by omega), if_neg (by omega)]
          rfl
  ·
    intro h10
    have hend := cmpL_end hk1 hk2 (.inl (by omega))
    refine K_gno rfl rfl rfl rfl ?_
    refine K_gno rfl rfl rfl rfl ?_
    refine K_gno rfl rfl rfl rfl ?_
    refine K_gno rfl rfl rfl rfl ?_
    refine KV (R_pickF rfl rfl) rfl ?_
    refine K_nil ?_
    refine Q_then ?_
    refine K_ifF rfl ?_
    refine K_exit ?_
    refine Q_then_exit ?_
    refine Q_then_exit ?_
    refine Q_block_exit ?_
    refine Q_then ?_
    refine K_seq ?_
    refine K_seq ?_
    refine K_region ?_
    refine KV (R_move rfl) rfl ?_
    refine KV (R_len sl25 rfl) rfl ?_
    refine KV (R_move rfl) rfl ?_
    refine KV (R_len sl25 rfl) rfl ?_
    refine KV (R_cmp rfl rfl rfl) rfl ?_
    refine K_nil ?_
    refine Q_then ?_
    refine K_if rfl (fun h40 => ?_) (fun h40 => ?_)
    ·
      refine K_seq ?_
      refine K_region ?_
      refine KV (R_assign rfl) rfl ?_
      refine K_nil ?_
      refine Q_then ?_
      refine K_ret ?_
      refine Q_then_ret ?_
      refine results_gen (rs := [.tmp 4]) (vs := [_]) rfl ⟨rfl, trivial⟩ ?_
      rw [hc, hend, if_pos (by omega)]
      rfl
    ·
      refine K_skip ?_
      refine Q_then ?_
      refine K_seq ?_
      refine K_seq ?_
      refine K_region ?_
      refine KV (R_move rfl) rfl ?_
      refine KV (R_len sl25 rfl) rfl ?_
      refine KV (R_move rfl) rfl ?_
      refine KV (R_len sl25 rfl) rfl ?_
      refine KV (R_cmp rfl rfl rfl) rfl ?_
      refine K_nil ?_
      refine Q_then ?_
      refine K_if rfl (fun h45 => ?_) (fun h45 => ?_)
      ·
        refine K_seq ?_
        refine K_region ?_
        refine KV (R_assign rfl) rfl ?_
        refine K_nil ?_
        refine Q_then ?_
        refine K_ret ?_
        refine Q_then_ret ?_
        refine results_gen (rs := [.tmp 4]) (vs := [_]) rfl ⟨rfl, trivial⟩ ?_
        rw [hc, hend, if_neg (by omega), if_pos (by omega)]
        rfl
      ·
        refine K_skip ?_
        refine Q_then ?_
        refine K_seq ?_
        refine K_region ?_
        refine KV (R_assign rfl) rfl ?_
        refine K_nil ?_
        refine Q_then ?_
        refine K_ret ?_
        refine results_gen (rs := [.tmp 4]) (vs := [_]) rfl ⟨rfl, trivial⟩ ?_
        rw [hc, hend, if_neg (by omega), if_neg (by omega)]
        rfl
end Go.Proofs.X

namespace Go.Proofs.X
open Go Pal Go.Proofs
attribute [local irreducible] Pal.KO Pal.KC Pal.KQ Pal.KD
theorem fd42_1 : fldOk Tryz.prog T42 1 1 = true := by kernel_rfl
theorem rhas_spec (y : Int) (xs : List Int) (v : Value) (H : View) (hv : SI H v xs) (hl : xs.length ≤ 1099511627776) : Sat Tryz.prog F62 #[v, .int .i64 y] H (fun r _ => r = .bool (decide (y ∈ xs))) := by
  obtain ⟨a, cp, rfl⟩ := hv.shape
  refine enterO (n := 18) (args := [.slice a xs.length cp, .int .i64 y]) Tryz.func50 rfl rfl rfl fun w0 => ?_
  refine K_seq ?_
  refine K_region ?_
  refine KV (R_assign rfl) rfl ?_
  refine K_nil ?_
  refine Q_then ?_
  refine K_seq ?_
  refine K_seq ?_
  refine K_region ?_
  refine KV (R_assign rfl) rfl ?_
  refine K_nil ?_
  refine Q_then ?_
  refine K_block ?_
  refine K_loopD (G := Nat) [4, 5, 6, 7, 8, 9, 10, 11, 12, 13, 14, 15, 16, 17] (fun g => [(5, .int .i64 (g : Int))]) (fun hl g => hl) (fun g => H) (fun g => (g ≤ xs.length) ∧ (∀ j (h : j < xs.length), j < g → xs[j] ≠ y)) (fun g => xs.length - g) 0 ⟨Nat.zero_le _, fun j _ h => by simp at h⟩ ⟨rfl, trivial⟩ (by simp only [args0, Nat.reduceAdd, del, memN, beqN, Nat.reduceBEq, cond_true, cond_false]; rfl) rfl rfl ?_
  rintro k ⟨hk, hno⟩
  try dsimp only at hk
  try dsimp only at hno
  dsimp only [List.set, List.cons_append, List.nil_append]
  refine K_seq ?_
  refine K_seq ?_
  refine K_region ?_
  refine KV (R_move rfl) rfl ?_
  refine KV (R_move rfl) rfl ?_
  refine KV (R_len sl25 rfl) rfl ?_
  refine KV (R_cmp rfl rfl rfl) rfl ?_
  refine K_nil ?_
  refine Q_then ?_
  refine K_if rfl (fun h9 => ?_) (fun h9 => ?_)
  ·
    have hk' : k < xs.length := by omega
    obtain ⟨tb, to_, rfl, hta⟩ := hv.get hk'
    refine K_skip ?_
    refine Q_then ?_
    refine K_seq ?_
    refine K_block ?_
    refine K_seq ?_
    refine K_region ?_
    refine KV (R_move rfl) rfl ?_
    refine KV (R_move rfl) rfl ?_
    refine KV (R_indexN sl25 ty3 rfl rfl (by omega)) rfl ?_
    refine KV (R_loadH ty3 rfl (hta) rfl (fun _ => rfl) rfl) rfl ?_
    refine KV (R_move rfl) rfl ?_
    refine KV (R_cmp rfl rfl rfl) rfl ?_
    refine K_nil ?_
    refine Q_then ?_
    refine K_if rfl (fun h17 => ?_) (fun h17 => ?_)
    ·
      refine K_seq ?_
      refine K_region ?_
      refine KV (R_assign rfl) rfl ?_
      refine K_nil ?_
      refine Q_then ?_
      refine K_ret ?_
      refine Q_block_ret ?_
      refine Q_then_ret ?_
      refine Q_then_ret ?_
      refine Q_block_ret ?_
      refine Q_then_ret ?_
      refine results_gen (rs := [.tmp 4]) (vs := [_]) rfl ⟨rfl, trivial⟩ ?_
      refine congrArg Value.bool (Eq.symm ?_)
      simp only [decide_eq_true_eq]
      exact h17 ▸ List.getElem_mem hk'
    ·
      have hno2 : ∀ j (h : j < xs.length), j < k + 1 → xs[j] ≠ y := by
        intro j h hj
        by_cases e : j = k
        · subst e; exact h17
        · exact hno j h (by omega)
      refine K_skip ?_
      refine Q_block ?_
      refine Q_then ?_
      refine K_region ?_
      refine KV (R_move rfl) rfl ?_
      refine KV (R_add rfl rfl (by omega)) rfl ?_
      refine KV (R_assign rfl) rfl ?_
      refine K_nil ?_
      refine Q_nextD (k + 1) ⟨hk', hno2⟩ (by (try dsimp only); omega) ⟨rfl, trivial⟩ rfl rfl rfl
  ·
    have hk' : k = xs.length := by omega
    refine K_exit ?_
    refine Q_then_exit ?_
    refine Q_then_exit ?_
    refine Q_block_exit ?_
    refine Q_then ?_
    refine K_seq ?_
    refine K_region ?_
    refine KV (R_assign rfl) rfl ?_
    refine K_nil ?_
    refine Q_then ?_
    refine K_ret ?_
    refine results_gen (rs := [.tmp 4]) (vs := [_]) rfl ⟨rfl, trivial⟩ ?_
    refine congrArg Value.bool (Eq.symm ?_)
    simp only [decide_eq_false_iff_not]
    intro hx
    obtain ⟨j, hj, e⟩ := List.getElem_of_mem hx
    exact hno j hj (by omega) e

theorem there_spec (vr vu vf : Value) (n q : Int) (H : View) : Sat Tryz.prog F55 #[.agg #[vr, .int .i64 n, vu, vf], .int .i64 q] H (fun r _ => r = .bool (!badQ n q)) := by
  refine enterO (n := 13) (args := [.agg #[vr, .int .i64 n, vu, vf], .int .i64 q]) Tryz.func48 rfl rfl rfl fun w0 => ?_
  refine K_seq ?_
  refine K_region ?_
  refine KA (A_box rfl) rfl fun b2 => ?_
  refine KV (R_assign rfl) rfl ?_
  refine K_nil ?_
  refine Q_then ?_
  refine K_seq ?_
  refine K_region ?_
  refine KV (R_move rfl) rfl ?_
  refine KV (R_cmp rfl rfl rfl) rfl ?_
  refine KV (R_move rfl) rfl ?_
  refine K_split ?_ ?_
  ·
    intro h7
    refine K_gyes rfl rfl ?_
    refine KV (R_move rfl) rfl ?_
    refine K_gyes rfl rfl ?_
    refine KV (R_fieldAddr 1 fd42_1 rfl) rfl ?_
    refine K_gyes rfl rfl ?_
    refine KV (R_loadO ty3 0 rfl rfl rfl rfl (fun _ => rfl) rfl) rfl ?_
    refine K_gyes rfl rfl ?_
    refine KV (R_cmp rfl rfl rfl) rfl ?_
    refine KV (R_pickT rfl rfl) rfl ?_
    refine KV (R_assign rfl) rfl ?_
    refine K_nil ?_
    refine Q_then ?_
    refine K_ret ?_
    refine results_gen (rs := [.tmp 4]) (vs := [_]) rfl ⟨rfl, trivial⟩ ?_
    simp [tupV, badQ, h7]
  ·
    intro h7
    refine K_gno rfl rfl rfl rfl ?_
    refine K_gno rfl rfl rfl rfl ?_
    refine K_gno rfl rfl rfl rfl ?_
    refine K_gno rfl rfl rfl rfl ?_
    refine KV (R_pickF rfl rfl) rfl ?_
    refine KV (R_assign rfl) rfl ?_
    refine K_nil ?_
    refine Q_then ?_
    refine K_ret ?_
    refine results_gen (rs := [.tmp 4]) (vs := [_]) rfl ⟨rfl, trivial⟩ ?_
    simp [tupV, badQ, h7]
end Go.Proofs.X

namespace Go.Proofs.X
open Go Pal Go.Proofs
attribute [local irreducible] Pal.KO Pal.KC Pal.KQ Pal.KD
theorem ty40 : Ty Tryz.prog T40 false 1 := .of (by kernel_rfl)
theorem ty42 : Ty Tryz.prog T42 true 4 := .of (by kernel_rfl)
theorem ty100 : Ty Tryz.prog T100 true 3 := .of (by kernel_rfl)
theorem sl40 : slcOk Tryz.prog T40 T100 := by unfold slcOk; kernel_rfl
theorem fd42_0 : fldOk Tryz.prog T42 0 0 = true := by kernel_rfl
theorem fd42_2 : fldOk Tryz.prog T42 2 2 = true := by kernel_rfl
theorem fd42_3 : fldOk Tryz.prog T42 3 3 = true := by kernel_rfl
theorem fd100_0 : fldOk Tryz.prog T100 0 0 = true := by kernel_rfl
theorem fd100_1 : fldOk Tryz.prog T100 1 1 = true := by kernel_rfl
theorem fd100_2 : fldOk Tryz.prog T100 2 2 = true := by kernel_rfl
theorem z100 : zeroOk Tryz.prog T100 (.agg #[.int .i64 0, .slice none 0 0, .int .i64 0]) := .of (by kernel_rfl)
theorem c36 : callable Tryz.prog F36 = true := by kernel_rfl
theorem c55 : callable Tryz.prog F55 = true := by kernel_rfl
theorem rcheck31_spec (xs : List Int) (v : Value) (H : View) (hv : SI H v xs) (hl : xs.length ≤ 1099511627776) : Sat Tryz.prog F36 #[v] H (fun r _ => r = .int .i64 (ranksErr xs)) := by
  obtain ⟨a, cp, rfl⟩ := hv.shape
  refine enterO (n := 40) (args := [.slice a xs.length cp]) Tryz.func47 rfl rfl rfl fun w0 => ?_
  refine K_seq ?_
  refine K_region ?_
  refine KV (R_assign rfl) rfl ?_
  refine K_nil ?_
  refine Q_then ?_
  refine K_seq ?_
  refine K_seq ?_
  refine K_region ?_
  refine KV (R_move rfl) rfl ?_
  refine KV (R_len sl25 rfl) rfl ?_
  refine KV (R_cmp rfl rfl rfl) rfl ?_
  refine KV (R_move rfl) rfl ?_
  refine K_split ?_ ?_
  ·
    intro h8
    refine K_gno rfl rfl rfl rfl ?_
    refine K_gno rfl rfl rfl rfl ?_
    refine K_gno rfl rfl rfl rfl ?_
    refine KV (R_pickT rfl rfl) rfl ?_
    refine K_nil ?_
    refine Q_then ?_
    refine K_ifT rfl ?_
    refine K_seq ?_
    refine K_region ?_
    refine KV (R_assign rfl) rfl ?_
    refine K_nil ?_
    refine Q_then ?_
    refine K_ret ?_
    refine Q_then_ret ?_
    refine results_gen (rs := [.tmp 2]) (vs := [_]) rfl ⟨rfl, trivial⟩ ?_
    simp only [tupV, ranksErr]
    rw [if_pos (.inl (by omega))]
  ·
    intro h8
    refine K_gyes rfl rfl ?_
    refine KV (R_move rfl) rfl ?_
    refine K_gyes rfl rfl ?_
    refine KV (R_len sl25 rfl) rfl ?_
    refine K_gyes rfl rfl ?_
    refine KV (R_cmp rfl rfl rfl) rfl ?_
    refine KV (R_pickF rfl rfl) rfl ?_
    refine K_nil ?_
    refine Q_then ?_
    refine K_if rfl (fun h12 => ?_) (fun h12 => ?_)
    ·
      refine K_seq ?_
      refine K_region ?_
      refine KV (R_assign rfl) rfl ?_
      refine K_nil ?_
      refine Q_then ?_
      refine K_ret ?_
      refine Q_then_ret ?_
      refine results_gen (rs := [.tmp 2]) (vs := [_]) rfl ⟨rfl, trivial⟩ ?_
      simp only [tupV, ranksErr]
      rw [if_pos (.inr (by omega))]
    ·
      refine K_skip ?_
      refine Q_then ?_
      refine K_seq ?_
      refine K_region ?_
      refine KV (R_assign rfl) rfl ?_
      refine K_nil ?_
      refine Q_then ?_
      refine K_seq ?_
      refine K_seq ?_
      refine K_region ?_
      refine KV (R_assign rfl) rfl ?_
      refine K_nil ?_
      refine Q_then ?_
      refine K_block ?_
      refine K_loopD (G := Nat) [2, 3, 4, 13, 14, 15, 16, 17, 18, 19, 20, 21, 22, 23, 24, 25, 26, 27, 28, 29, 30, 31, 32, 33, 34, 35, 36, 37, 38] (fun g => [(4, .int .i64 (g : Int)), (3, .bool ((xs.take g).all fun x => decide (0 < x)))]) (fun hl g => hl) (fun g => H) (fun g => (g ≤ xs.length) ∧ (∀ j (h : j < xs.length), j < g → ¬ (xs[j] < 0 ∨ 2 < xs[j]))) (fun g => xs.length - g) 0 ⟨Nat.zero_le _, fun j _ h => by simp at h⟩ ⟨rfl, rfl, trivial⟩ (by simp only [args0, Nat.reduceAdd, del, memN, beqN, Nat.reduceBEq, cond_true, cond_false]; rfl) rfl rfl ?_
      rintro k ⟨hk, hno⟩
      try dsimp only at hk
      try dsimp only at hno
      dsimp only [List.set, List.cons_append, List.nil_append]
      refine K_seq ?_
      refine K_seq ?_
      refine K_region ?_
      refine KV (R_move rfl) rfl ?_
      refine KV (R_move rfl) rfl ?_
      refine KV (R_len sl25 rfl) rfl ?_
      refine KV (R_cmp rfl rfl rfl) rfl ?_
      refine K_nil ?_
      refine Q_then ?_
      refine K_if rfl (fun h16 => ?_) (fun h16 => ?_)
      ·
        have hk' : k < xs.length := by omega
        obtain ⟨tb, to_, rfl, hta⟩ := hv.get hk'
        refine K_skip ?_
        refine Q_then ?_
        refine K_seq ?_
        refine K_block ?_
        refine K_seq ?_
        refine K_seq ?_
        refine K_region ?_
        refine KV (R_move rfl) rfl ?_
        refine KV (R_move rfl) rfl ?_
        refine KV (R_indexN sl25 ty3 rfl rfl (by omega)) rfl ?_
        refine KV (R_loadH ty3 rfl (hta) rfl (fun _ => rfl) rfl) rfl ?_
        refine KV (R_cmp rfl rfl rfl) rfl ?_
        refine KV (R_move rfl) rfl ?_
        refine K_split ?_ ?_
        ·
          intro h24
          refine K_gno rfl rfl rfl rfl ?_
          refine K_gno rfl rfl rfl rfl ?_
          refine K_gno rfl rfl rfl rfl ?_
          refine K_gno rfl rfl rfl rfl ?_
          refine K_gno rfl rfl rfl rfl ?_
          refine KV (R_pickT rfl rfl) rfl ?_
          refine K_nil ?_
          refine Q_then ?_
          refine K_ifT rfl ?_
          refine K_seq ?_
          refine K_region ?_
          refine KV (R_assign rfl) rfl ?_
          refine K_nil ?_
          refine Q_then ?_
          refine K_ret ?_
          refine Q_then_ret ?_
          refine Q_block_ret ?_
          refine Q_then_ret ?_
          refine Q_then_ret ?_
          refine Q_block_ret ?_
          refine Q_then_ret ?_
          refine results_gen (rs := [.tmp 2]) (vs := [_]) rfl ⟨rfl, trivial⟩ ?_
          have hany : (xs.any fun x => decide (x < 0 ∨ 2 < x)) = true := List.any_eq_true.2 ⟨_, List.getElem_mem hk', by simp; omega⟩
          simp only [tupV, ranksErr]
          rw [if_neg (by omega), if_pos hany]
        ·
          intro h24
          refine K_gyes rfl rfl ?_
          refine KV (R_move rfl) rfl ?_
          refine K_gyes rfl rfl ?_
          refine KV (R_move rfl) rfl ?_
          refine K_gyes rfl rfl ?_
          refine KV (R_indexN sl25 ty3 rfl rfl (by omega)) rfl ?_
          refine K_gyes rfl rfl ?_
          refine KV (R_loadH ty3 rfl (hta) rfl (fun _ => rfl) rfl) rfl ?_
          refine K_gyes rfl rfl ?_
          refine KV (R_cmp rfl rfl rfl) rfl ?_
          refine KV (R_pickF rfl rfl) rfl ?_
          refine K_nil ?_
          refine Q_then ?_
          refine K_if rfl (fun h30 => ?_) (fun h30 => ?_)
          ·
            refine K_seq ?_
            refine K_region ?_
            refine KV (R_assign rfl) rfl ?_
            refine K_nil ?_
            refine Q_then ?_
            refine K_ret ?_
            refine Q_then_ret ?_
            refine Q_block_ret ?_
            refine Q_then_ret ?_
            refine Q_then_ret ?_
            refine Q_block_ret ?_
            refine Q_then_ret ?_
            refine results_gen (rs := [.tmp 2]) (vs := [_]) rfl ⟨rfl, trivial⟩ ?_
            have hany : (xs.any fun x => decide (x < 0 ∨ 2 < x)) = true := List.any_eq_true.2 ⟨_, List.getElem_mem hk', by simp; omega⟩
            simp only [tupV, ranksErr]
            rw [if_neg (by omega), if_pos hany]
          ·
            have hno2 : ∀ j (h : j < xs.length), j < k + 1 → ¬ (xs[j] < 0 ∨ 2 < xs[j]) := by
              intro j h hj
              by_cases e : j = k
              · subst e; omega
              · exact hno j h (by omega)
            refine K_skip ?_
            refine Q_then ?_
            refine K_region ?_
            refine KV (R_move rfl) rfl ?_
            refine KV (R_move rfl) rfl ?_
            refine K_splitB ?_ ?_
            ·
              intro h32
              refine K_gyes rfl rfl ?_
              refine KV (R_move rfl) rfl ?_
              refine K_gyes rfl rfl ?_
              refine KV (R_move rfl) rfl ?_
              refine K_gyes rfl rfl ?_
              refine KV (R_indexN sl25 ty3 rfl rfl (by omega)) rfl ?_
              refine K_gyes rfl rfl ?_
              refine KV (R_loadH ty3 rfl (hta) rfl (fun _ => rfl) rfl) rfl ?_
              refine K_gyes rfl rfl ?_
              refine KV (R_cmp rfl rfl rfl) rfl ?_
              refine KV (R_pickT rfl rfl) rfl ?_
              refine KV (R_assign rfl) rfl ?_
              refine K_nil ?_
              refine Q_block ?_
              refine Q_then ?_
              refine K_region ?_
              refine KV (R_move rfl) rfl ?_
              refine KV (R_add rfl rfl (by omega)) rfl ?_
              refine KV (R_assign rfl) rfl ?_
              refine K_nil ?_
              refine Q_nextD (k + 1) ⟨hk', hno2⟩ (by (try dsimp only); omega) ⟨rfl, congrArg (fun z => some (Value.bool z)) (by rw [all_succ hk', h32]; rfl), trivial⟩ rfl rfl rfl
            ·
              intro h32
              refine K_gno rfl rfl rfl rfl ?_
              refine K_gno rfl rfl rfl rfl ?_
              refine K_gno rfl rfl rfl rfl ?_
              refine K_gno rfl rfl rfl rfl ?_
              refine K_gno rfl rfl rfl rfl ?_
              refine KV (R_pickF rfl rfl) rfl ?_
              refine KV (R_assign rfl) rfl ?_
              refine K_nil ?_
              refine Q_block ?_
              refine Q_then ?_
              refine K_region ?_
              refine KV (R_move rfl) rfl ?_
              refine KV (R_add rfl rfl (by omega)) rfl ?_
              refine KV (R_assign rfl) rfl ?_
              refine K_nil ?_
              refine Q_nextD (k + 1) ⟨hk', hno2⟩ (by (try dsimp only); omega) ⟨rfl, congrArg (fun z => some (Value.bool z)) (by rw [all_succ hk', h32]; rfl), trivial⟩ rfl rfl rfl
      ·
        have hk' : k = xs.length := by omega
        subst hk'
        rw [List.take_length]
        have hany : (xs.any fun x => decide (x < 0 ∨ 2 < x)) = false := by
          rw [List.any_eq_false]
          intro x hx
          obtain ⟨j, hj, rfl⟩ := List.getElem_of_mem hx
          simpa using hno j hj hj
        refine K_exit ?_
        refine Q_then_exit ?_
        refine Q_then_exit ?_
        refine Q_block_exit ?_
        refine Q_then ?_
        refine K_seq ?_
        refine K_seq ?_
        refine K_region ?_
        refine KV (R_move rfl) rfl ?_
        refine K_nil ?_
        refine Q_then ?_
        refine K_ifB rfl (fun h39 => ?_) (fun h39 => ?_)
        ·
          refine K_seq ?_
          refine K_region ?_
          refine KV (R_assign rfl) rfl ?_
          refine K_nil ?_
          refine Q_then ?_
          refine K_ret ?_
          refine Q_then_ret ?_
          refine results_gen (rs := [.tmp 2]) (vs := [_]) rfl ⟨rfl, trivial⟩ ?_
          have h0 : ¬ (0 : Int) ∈ xs := by
            intro hm
            have := List.all_eq_true.1 h39 0 hm
            simp at this
          simp only [tupV, ranksErr]
          rw [if_neg (by omega), if_neg (by rw [hany]; simp), if_pos h0]
        ·
          refine K_skip ?_
          refine Q_then ?_
          refine K_seq ?_
          refine K_region ?_
          refine KV (R_assign rfl) rfl ?_
          refine K_nil ?_
          refine Q_then ?_
          refine K_ret ?_
          refine results_gen (rs := [.tmp 2]) (vs := [_]) rfl ⟨rfl, trivial⟩ ?_
          have h0 : (0 : Int) ∈ xs := by
            obtain ⟨x, hx, hx2⟩ := List.all_eq_false.1 h39
            obtain ⟨j, hj, e⟩ := List.getElem_of_mem hx
            have := hno j hj hj
            have h3 : ¬ 0 < x := by simpa using hx2
            have : x = 0 := by rw [e] at this; omega
            exact this ▸ hx
          simp only [tupV, ranksErr]
          rw [if_neg (by omega), if_neg (by rw [hany]; simp), if_neg (by simpa using h0)]

theorem rcheck_spec (a : Au) (vr vu vf : Value) (H : View) (ha : RepAu H a vr vu vf) : Sat Tryz.prog F20 #[.agg #[vr, .int .i64 a.states, vu, vf]] H (fun r _ => r = .int .i64 (auErr a)) := by
  obtain ⟨ra, rcp, rfl⟩ := ha.r.shape
  obtain ⟨fa, fcp, rfl⟩ := ha.f.shape
  obtain ⟨ua, ucp, rfl⟩ := ha.ushape
  have hrl := ha.rl
  have hul := ha.ul
  have hfl := ha.fl
  refine enterO (n := 96) (args := [.agg #[.slice ra a.ranks.length rcp, .int .i64 a.states, .slice ua a.rules.length ucp, .slice fa a.final.length fcp]]) Tryz.func14 rfl rfl rfl fun w0 => ?_
  refine K_seq ?_
  refine K_region ?_
  refine KA (A_box rfl) rfl fun b1 => ?_
  refine KV (R_assign rfl) rfl ?_
  refine K_nil ?_
  refine Q_then ?_
  refine K_seq ?_
  refine K_seq ?_
  refine K_region ?_
  refine KV (R_fieldAddr 0 fd42_0 rfl) rfl ?_
  refine KV (R_loadO ty25 0 rfl rfl rfl rfl (fun _ => rfl) rfl) rfl ?_
  refine K_call c36 rfl rfl (rcheck31_spec a.ranks _ H ha.r hrl) ?_
  rintro _ V1 hle1 rfl
  refine KV (R_assign rfl) rfl ?_
  refine K_nil ?_
  refine Q_then ?_
  refine K_seq ?_
  refine K_region ?_
  refine KV (R_move rfl) rfl ?_
  refine KV (R_cmp rfl rfl rfl) rfl ?_
  refine K_nil ?_
  refine Q_then ?_
  refine K_if rfl (fun h12 => ?_) (fun h12 => ?_)
  ·
    refine K_seq ?_
    refine K_region ?_
    refine KV (R_move rfl) rfl ?_
    refine KV (R_assign rfl) rfl ?_
    refine K_nil ?_
    refine Q_then ?_
    refine K_ret ?_
    refine Q_then_ret ?_
    refine results_gen (rs := [.tmp 2]) (vs := [_]) rfl ⟨rfl, trivial⟩ ?_
    simp only [tupV, auErr]
    rw [if_pos h12]
  ·
    refine K_skip ?_
    refine Q_then ?_
    refine K_seq ?_
    refine K_seq ?_
    refine K_region ?_
    refine KV (R_fieldAddr 1 fd42_1 rfl) rfl ?_
    refine KV (R_loadO ty3 0 rfl rfl rfl rfl (fun _ => rfl) rfl) rfl ?_
    refine KV (R_cmp rfl rfl rfl) rfl ?_
    refine KV (R_move rfl) rfl ?_
    refine K_split ?_ ?_
    ·
      intro h17
      refine K_gno rfl rfl rfl rfl ?_
      refine K_gno rfl rfl rfl rfl ?_
      refine K_gno rfl rfl rfl rfl ?_
      refine KV (R_pickT rfl rfl) rfl ?_
      refine KV (R_move rfl) rfl ?_
      refine K_gno rfl rfl rfl rfl ?_
      refine K_gno rfl rfl rfl rfl ?_
      refine K_gno rfl rfl rfl rfl ?_
      refine K_gno rfl rfl rfl rfl ?_
      refine KV (R_pickT rfl rfl) rfl ?_
      refine K_nil ?_
      refine Q_then ?_
      refine K_ifT rfl ?_
      refine K_seq ?_
      refine K_region ?_
      refine KV (R_assign rfl) rfl ?_
      refine K_nil ?_
      refine Q_then ?_
      refine K_ret ?_
      refine Q_then_ret ?_
      refine results_gen (rs := [.tmp 2]) (vs := [_]) rfl ⟨rfl, trivial⟩ ?_
      simp only [tupV, auErr]
      rw [if_neg h12, if_pos (by omega)]
    ·
      intro h17
      refine K_gyes rfl rfl ?_
      refine KV (R_fieldAddr 1 fd42_1 rfl) rfl ?_
      refine K_gyes rfl rfl ?_
      refine KV (R_loadO ty3 0 rfl rfl rfl rfl (fun _ => rfl) rfl) rfl ?_
      refine K_gyes rfl rfl ?_
      refine KV (R_cmp rfl rfl rfl) rfl ?_
      refine KV (R_pickF rfl rfl) rfl ?_
      refine KV (R_move rfl) rfl ?_
      refine K_split ?_ ?_
      ·
        intro h22
        refine K_gno rfl rfl rfl rfl ?_
        refine K_gno rfl rfl rfl rfl ?_
        refine K_gno rfl rfl rfl rfl ?_
        refine K_gno rfl rfl rfl rfl ?_
        refine KV (R_pickT rfl rfl) rfl ?_
        refine K_nil ?_
        refine Q_then ?_
        refine K_ifT rfl ?_
        refine K_seq ?_
        refine K_region ?_
        refine KV (R_assign rfl) rfl ?_
        refine K_nil ?_
        refine Q_then ?_
        refine K_ret ?_
        refine Q_then_ret ?_
        refine results_gen (rs := [.tmp 2]) (vs := [_]) rfl ⟨rfl, trivial⟩ ?_
        simp only [tupV, auErr]
        rw [if_neg h12, if_pos (by omega)]
      ·
        intro h22
        refine K_gyes rfl rfl ?_
        refine KV (R_fieldAddr 2 fd42_2 rfl) rfl ?_
        refine K_gyes rfl rfl ?_
        refine KV (R_loadO ty40 0 rfl rfl rfl rfl (fun _ => rfl) rfl) rfl ?_
        refine K_gyes rfl rfl ?_
        refine KV (R_len sl40 rfl) rfl ?_
        refine K_gyes rfl rfl ?_
        refine KV (R_cmp rfl rfl rfl) rfl ?_
        refine KV (R_pickF rfl rfl) rfl ?_
        refine K_nil ?_
        refine Q_then ?_
        refine K_if rfl (fun h27 => ?_) (fun h27 => ?_)
        ·
          refine K_seq ?_
          refine K_region ?_
          refine KV (R_assign rfl) rfl ?_
          refine K_nil ?_
          refine Q_then ?_
          refine K_ret ?_
          refine Q_then_ret ?_
          refine results_gen (rs := [.tmp 2]) (vs := [_]) rfl ⟨rfl, trivial⟩ ?_
          simp only [tupV, auErr]
          rw [if_neg h12, if_pos (by omega)]
        ·
          refine K_skip ?_
          refine Q_then ?_
          refine K_seq ?_
          refine K_seq ?_
          refine K_region ?_
          refine KV (R_assign rfl) rfl ?_
          refine K_nil ?_
          refine Q_then ?_
          refine K_block ?_
          refine K_loopD (G := Nat × View) [2, 4, 5, 6, 28, 29, 30, 31, 32, 33, 34, 35, 36, 37, 38, 39, 40, 41, 42, 43, 44, 45, 46, 47, 48, 49, 50, 51, 52, 53, 54, 55, 56, 57, 58, 59, 60, 61, 62, 63, 64, 65, 66, 67, 68, 69, 70, 71, 72, 73, 74, 75, 76, 77, 78, 79, 80] (fun g => [(4, .int .i64 (g.1 : Int))]) (fun hl g => hl) (fun g => g.2) (fun g => (g.1 ≤ a.rules.length) ∧ (VLe H g.2) ∧ (∀ j (hj : j < a.rules.length), j < g.1 → ruleErr a a.rules[j] = 0)) (fun g => a.rules.length - g.1) (0, V1) ⟨Nat.zero_le _, hle1, fun j _ h => by simp at h⟩ ⟨rfl, trivial⟩ (by simp only [args0, Nat.reduceAdd, del, memN, beqN, Nat.reduceBEq, cond_true, cond_false]; rfl) rfl rfl ?_
          rintro ⟨k, V⟩ ⟨hk, hV, hno⟩
          dsimp only at hk hV hno
          dsimp only [List.set, List.cons_append, List.nil_append]
          have hbase : auErr a = if rulesErr a a.rules ≠ 0 then rulesErr a a.rules else if (a.final.any (badQ a.states)) = true then 2 else 0 := by
            unfold auErr
            rw [if_neg h12, if_neg (by omega)]
          refine K_seq ?_
          refine K_seq ?_
          refine K_region ?_
          refine KV (R_move rfl) rfl ?_
          refine KV (R_fieldAddr 2 fd42_2 rfl) rfl ?_
          refine KV (R_loadO ty40 0 rfl rfl rfl rfl (fun _ => rfl) rfl) rfl ?_
          refine KV (R_len sl40 rfl) rfl ?_
          refine KV (R_cmp rfl rfl rfl) rfl ?_
          refine K_nil ?_
          refine Q_then ?_
          refine K_if rfl (fun h32 => ?_) (fun h32 => ?_)
          ·
            have hk' : k < a.rules.length := by omega
            obtain ⟨ub, uo, ucp2, xa, xcp, hue, hrc, hsr, hsym, hto, hal⟩ := (ha.mono hV).rule hk'
            cases hue
            have hre : ruleErr a a.rules[k] ≠ 0 → auErr a = ruleErr a a.rules[k] := fun h => by rw [hbase, rulesErr_take hno hk' h, if_pos h]
            refine K_skip ?_
            refine Q_then ?_
            refine K_seq ?_
            refine K_block ?_
            refine K_seq ?_
            refine K_region ?_
            refine KV (R_fieldAddr 2 fd42_2 rfl) rfl ?_
            refine KV (R_loadO ty40 0 rfl rfl rfl rfl (fun _ => rfl) rfl) rfl ?_
            refine KV (R_move rfl) rfl ?_
            refine KV (R_indexN sl40 ty100 rfl rfl (by omega)) rfl ?_
            refine KV (R_loadH ty100 rfl (hrc) rfl (fun e => by cases e) rfl) rfl ?_
            refine KA (A_alloc z100) rfl fun b5 => ?_
            refine K_store ty100 0 rfl rfl rfl rfl rfl rfl ?_
            refine K_nil ?_
            refine Q_then ?_
            refine K_seq ?_
            refine K_seq ?_
            refine K_region ?_
            refine KV (R_fieldAddr 0 fd100_0 rfl) rfl ?_
            refine KV (R_loadO ty3 0 rfl rfl rfl rfl (fun _ => rfl) rfl) rfl ?_
            refine KV (R_cmp rfl rfl rfl) rfl ?_
            refine KV (R_move rfl) rfl ?_
            refine K_split ?_ ?_
            ·
              intro h43
              refine K_gno rfl rfl rfl rfl ?_
              refine K_gno rfl rfl rfl rfl ?_
              refine K_gno rfl rfl rfl rfl ?_
              refine K_gno rfl rfl rfl rfl ?_
              refine K_gno rfl rfl rfl rfl ?_
              refine K_gno rfl rfl rfl rfl ?_
              refine KV (R_pickT rfl rfl) rfl ?_
              refine K_nil ?_
              refine Q_then ?_
              refine K_ifT rfl ?_
              refine K_seq ?_
              refine K_region ?_
              refine KV (R_assign rfl) rfl ?_
              refine K_nil ?_
              refine Q_then ?_
              refine K_ret ?_
              refine Q_then_ret ?_
              refine Q_block_ret ?_
              refine Q_then_ret ?_
              refine Q_then_ret ?_
              refine Q_block_ret ?_
              refine Q_then_ret ?_
              refine results_gen (rs := [.tmp 2]) (vs := [_]) rfl ⟨rfl, trivial⟩ ?_
              have e : ruleErr a a.rules[k] = 6 := by
                simp only [ruleErr]
                rw [if_pos (by omega)]
              rw [hre (by rw [e]; decide), e]
              rfl
            ·
              intro h43
              refine K_gyes rfl rfl ?_
              refine KV (R_fieldAddr 0 fd100_0 rfl) rfl ?_
              refine K_gyes rfl rfl ?_
              refine KV (R_loadO ty3 0 rfl rfl rfl rfl (fun _ => rfl) rfl) rfl ?_
              refine K_gyes rfl rfl ?_
              refine KV (R_fieldAddr 0 fd42_0 rfl) rfl ?_
              refine K_gyes rfl rfl ?_
              refine KV (R_loadO ty25 1 rfl rfl rfl rfl (fun _ => rfl) rfl) rfl ?_
              refine K_gyes rfl rfl ?_
              refine KV (R_len sl25 rfl) rfl ?_
              refine K_gyes rfl rfl ?_
              refine KV (R_cmp rfl rfl rfl) rfl ?_
              refine KV (R_pickF rfl rfl) rfl ?_
              refine K_nil ?_
              refine Q_then ?_
              refine K_if rfl (fun h50 => ?_) (fun h50 => ?_)
              ·
                refine K_seq ?_
                refine K_region ?_
                refine KV (R_assign rfl) rfl ?_
                refine K_nil ?_
                refine Q_then ?_
                refine K_ret ?_
                refine Q_then_ret ?_
                refine Q_block_ret ?_
                refine Q_then_ret ?_
                refine Q_then_ret ?_
                refine Q_block_ret ?_
                refine Q_then_ret ?_
                refine results_gen (rs := [.tmp 2]) (vs := [_]) rfl ⟨rfl, trivial⟩ ?_
                have e : ruleErr a a.rules[k] = 6 := by
                  simp only [ruleErr]
                  rw [if_pos (by omega)]
                rw [hre (by rw [e]; decide), e]
                rfl
              ·
                have hs2 : a.rules[k].sym.toNat < a.ranks.length := by omega
                obtain ⟨rb, ro, hre2, hrk⟩ := (ha.mono hV).r.get hs2
                cases hre2
                have hgd : a.ranks.getD a.rules[k].sym.toNat 0 = a.ranks[a.rules[k].sym.toNat] := by simp [List.getD, hs2]
                refine K_skip ?_
                refine Q_then ?_
                refine K_seq ?_
                refine K_seq ?_
                refine K_regionD (fin := false) (R := [0, 1, 2, 3, 4, 5, 6, 7, 8, 9]) (by kernel_rfl) mixed (.cons_cons _ (.cons_cons _ (List.nil_sublist _))) ?_
                refine D_val rfl rfl rfl (R_fieldAddr 1 fd100_1 rfl) ?_
                refine D_val rfl rfl rfl (R_loadO ty25 0 rfl rfl rfl rfl (fun _ => rfl) rfl) ?_
                refine D_val rfl rfl rfl (R_len sl25 rfl) ?_
                refine D_val rfl rfl rfl (R_fieldAddr 0 fd42_0 rfl) ?_
                refine D_val rfl rfl rfl (R_loadO ty25 1 rfl rfl rfl rfl (fun _ => rfl) rfl) ?_
                refine D_val rfl rfl rfl (R_fieldAddr 0 fd100_0 rfl) ?_
                refine D_val rfl rfl rfl (R_loadO ty3 0 rfl rfl rfl rfl (fun _ => rfl) rfl) ?_
                refine D_val rfl rfl rfl (R_index sl25 ty3 rfl rfl ⟨by omega, by omega⟩) ?_
                refine D_val rfl rfl rfl (R_loadH ty3 rfl (hrk) rfl (fun _ => rfl) rfl) ?_
                refine D_val rfl rfl rfl (R_cmp rfl rfl rfl) ?_
                refine D_done ?_
                refine Q_then ?_
                refine K_if rfl (fun h60 => ?_) (fun h60 => ?_)
                ·
                  refine K_seq ?_
                  refine K_region ?_
                  refine KV (R_assign rfl) rfl ?_
                  refine K_nil ?_
                  refine Q_then ?_
                  refine K_ret ?_
                  refine Q_then_ret ?_
                  refine Q_block_ret ?_
                  refine Q_then_ret ?_
                  refine Q_then_ret ?_
                  refine Q_block_ret ?_
                  refine Q_then_ret ?_
                  refine results_gen (rs := [.tmp 2]) (vs := [_]) rfl ⟨rfl, trivial⟩ ?_
                  have e : ruleErr a a.rules[k] = 3 := by
                    simp only [ruleErr]
                    rw [if_neg (by omega), hgd, if_pos h60]
                  rw [hre (by rw [e]; decide), e]
                  rfl
                ·
                  refine K_skip ?_
                  refine Q_then ?_
                  refine K_seq ?_
                  refine K_seq ?_
                  refine K_region ?_
                  refine KV (R_assign rfl) rfl ?_
                  refine K_nil ?_
                  refine Q_then ?_
                  refine K_block ?_
                  refine K_loopD (G := Nat × View) [2, 6, 61, 62, 63, 64, 65, 66, 67, 68, 69, 70, 71, 72, 73, 74, 75] (fun g => [(6, .int .i64 (g.1 : Int))]) (fun hl g => hl) (fun g => g.2) (fun g => (g.1 ≤ a.rules[k].args.length) ∧ (VLe V g.2) ∧ (∀ i (h : i < a.rules[k].args.length), i < g.1 → badQ a.states a.rules[k].args[i] = false)) (fun g => a.rules[k].args.length - g.1) (0, V) ⟨Nat.zero_le _, VLe.refl _, fun j _ h => by simp at h⟩ ⟨rfl, trivial⟩ (by simp only [args0, Nat.reduceAdd, del, memN, beqN, Nat.reduceBEq, cond_true, cond_false]; rfl) rfl rfl ?_
                  rintro ⟨j, U⟩ ⟨hj, hU, hyes⟩
                  dsimp only at hj hU hyes
                  dsimp only [List.set, List.cons_append, List.nil_append]
                  refine K_seq ?_
                  refine K_seq ?_
                  refine K_region ?_
                  refine KV (R_move rfl) rfl ?_
                  refine KV (R_fieldAddr 1 fd100_1 rfl) rfl ?_
                  refine KV (R_loadO ty25 0 rfl rfl rfl rfl (fun _ => rfl) rfl) rfl ?_
                  refine KV (R_len sl25 rfl) rfl ?_
                  refine KV (R_cmp rfl rfl rfl) rfl ?_
                  refine K_nil ?_
                  refine Q_then ?_
                  refine K_if rfl (fun h65 => ?_) (fun h65 => ?_)
                  ·
                    have hj' : j < a.rules[k].args.length := by omega
                    obtain ⟨tb, to_, hte, hta⟩ := (hsr.mono hU).get hj'
                    cases hte
                    refine K_skip ?_
                    refine Q_then ?_
                    refine K_seq ?_
                    refine K_block ?_
                    refine K_seq ?_
                    refine K_regionD (fin := false) (R := [0, 1, 2, 3, 4, 5, 6, 7]) (by kernel_rfl) mixed (.cons_cons _ (.cons_cons _ (List.nil_sublist _))) ?_
                    refine D_val rfl rfl rfl (R_loadO ty42 1 rfl rfl rfl rfl (fun e => by cases e) rfl) ?_
                    refine D_val rfl rfl rfl (R_fieldAddr 1 fd100_1 rfl) ?_
                    refine D_val rfl rfl rfl (R_loadO ty25 0 rfl rfl rfl rfl (fun _ => rfl) rfl) ?_
                    refine D_val rfl rfl rfl (R_move rfl) ?_
                    refine D_val rfl rfl rfl (R_indexN sl25 ty3 rfl rfl (by omega)) ?_
                    refine D_val rfl rfl rfl (R_loadH ty3 rfl (hta) rfl (fun _ => rfl) rfl) ?_
                    refine D_call rfl rfl c55 rfl ⟨⟨0, rfl⟩, ⟨1, rfl⟩, trivial⟩ (there_spec _ _ _ a.states a.rules[k].args[j] U) ?_
                    rintro _ U1 hU1 rfl
                    refine D_val rfl rfl rfl (R_not rfl) ?_
                    refine D_done ?_
                    refine Q_then ?_
                    refine K_ifB rfl (fun h75 => ?_) (fun h75 => ?_)
                    ·
                      have h75' : badQ a.states a.rules[k].args[j] = true := by simpa using h75
                      refine K_seq ?_
                      refine K_region ?_
                      refine KV (R_assign rfl) rfl ?_
                      refine K_nil ?_
                      refine Q_then ?_
                      refine K_ret ?_
                      refine Q_block_ret ?_
                      refine Q_then_ret ?_
                      refine Q_then_ret ?_
                      refine Q_block_ret ?_
                      refine Q_then_ret ?_
                      refine Q_block_ret ?_
                      refine Q_then_ret ?_
                      refine Q_then_ret ?_
                      refine Q_block_ret ?_
                      refine Q_then_ret ?_
                      refine results_gen (rs := [.tmp 2]) (vs := [_]) rfl ⟨rfl, trivial⟩ ?_
                      have hany : a.rules[k].args.any (badQ a.states) = true := List.any_eq_true.2 ⟨_, List.getElem_mem hj', h75'⟩
                      have e : ruleErr a a.rules[k] = 2 := by
                        simp only [ruleErr]
                        rw [if_neg (by omega), hgd, if_neg h60, hany]; rfl
                      rw [hre (by rw [e]; decide), e]
                      rfl
                    ·
                      have h75' : badQ a.states a.rules[k].args[j] = false := by simpa using h75
                      have hyes2 : ∀ i (h : i < a.rules[k].args.length), i < j + 1 → badQ a.states a.rules[k].args[i] = false := by
                        intro i h hi
                        by_cases e : i = j
                        · subst e; exact h75'
                        · exact hyes i h (by omega)
                      refine K_skip ?_
                      refine Q_block ?_
                      refine Q_then ?_
                      refine K_region ?_
                      refine KV (R_move rfl) rfl ?_
                      refine KV (R_add rfl rfl (by omega)) rfl ?_
                      refine KV (R_assign rfl) rfl ?_
                      refine K_nil ?_
                      refine Q_nextD (j + 1, U1) ⟨hj', hU.trans hU1, hyes2⟩ (by (try dsimp only); omega) ⟨rfl, trivial⟩ rfl rfl rfl
                  ·
                    have hj' : j = a.rules[k].args.length := by omega
                    have hann : a.rules[k].args.any (badQ a.states) = false := by
                      rw [List.any_eq_false]
                      intro x hx
                      obtain ⟨i, hi, rfl⟩ := List.getElem_of_mem hx
                      simp [hyes i hi (by omega)]
                    refine K_exit ?_
                    refine Q_then_exit ?_
                    refine Q_then_exit ?_
                    refine Q_block_exit ?_
                    refine Q_then ?_
                    refine K_seq ?_
                    refine K_region ?_
                    refine KV (R_loadO ty42 1 rfl rfl rfl rfl (fun e => by cases e) rfl) rfl ?_
                    refine KV (R_fieldAddr 2 fd100_2 rfl) rfl ?_
                    refine KV (R_loadO ty3 0 rfl rfl rfl rfl (fun _ => rfl) rfl) rfl ?_
                    refine K_call c55 rfl rfl (there_spec _ _ _ a.states a.rules[k].to U) ?_
                    rintro _ U1 hU1 rfl
                    refine KV (R_not rfl) rfl ?_
                    refine K_nil ?_
                    refine Q_then ?_
                    refine K_ifB rfl (fun h80 => ?_) (fun h80 => ?_)
                    ·
                      have h80' : badQ a.states a.rules[k].to = true := by simpa using h80
                      refine K_seq ?_
                      refine K_region ?_
                      refine KV (R_assign rfl) rfl ?_
                      refine K_nil ?_
                      refine Q_then ?_
                      refine K_ret ?_
                      refine Q_block_ret ?_
                      refine Q_then_ret ?_
                      refine Q_then_ret ?_
                      refine Q_block_ret ?_
                      refine Q_then_ret ?_
                      refine results_gen (rs := [.tmp 2]) (vs := [_]) rfl ⟨rfl, trivial⟩ ?_
                      have e : ruleErr a a.rules[k] = 2 := by
                        simp only [ruleErr]
                        rw [if_neg (by omega), hgd, if_neg h60, hann, h80']; rfl
                      rw [hre (by rw [e]; decide), e]
                      rfl
                    ·
                      have h80' : badQ a.states a.rules[k].to = false := by simpa using h80
                      have hno2 : ∀ j (hj : j < a.rules.length), j < k + 1 → ruleErr a a.rules[j] = 0 := by
                        intro j2 hj2 hjk
                        by_cases e : j2 = k
                        · subst e
                          simp only [ruleErr]
                          rw [if_neg (by omega), hgd, if_neg h60, hann, h80']
                          simp
                        · exact hno j2 hj2 (by omega)
                      refine K_skip ?_
                      refine Q_block ?_
                      refine Q_then ?_
                      refine K_region ?_
                      refine KV (R_move rfl) rfl ?_
                      refine KV (R_add rfl rfl (by omega)) rfl ?_
                      refine KV (R_assign rfl) rfl ?_
                      refine K_nil ?_
                      refine KQ_sel [1] rfl ?_
                      refine Q_nextD (k + 1, U1) ⟨hk', hV.trans (hU.trans hU1), hno2⟩ (by (try dsimp only); omega) ⟨rfl, trivial⟩ rfl rfl rfl
          ·
            have hk' : k = a.rules.length := by omega
            subst hk'
            have hrz : rulesErr a a.rules = 0 := rulesErr_zero fun j hj => hno j hj hj
            rw [hrz, if_neg (by decide)] at hbase
            refine K_exit ?_
            refine Q_then_exit ?_
            refine Q_then_exit ?_
            refine Q_block_exit ?_
            refine Q_then ?_
            refine K_seq ?_
            refine K_seq ?_
            refine K_region ?_
            refine KV (R_assign rfl) rfl ?_
            refine K_nil ?_
            refine Q_then ?_
            refine K_block ?_
            refine K_loopD (G := Nat × View) [2, 7, 81, 82, 83, 84, 85, 86, 87, 88, 89, 90, 91, 92, 93, 94, 95] (fun g => [(7, .int .i64 (g.1 : Int))]) (fun hl g => hl) (fun g => g.2) (fun g => (g.1 ≤ a.final.length) ∧ (VLe H g.2) ∧ (∀ j (h : j < a.final.length), j < g.1 → badQ a.states a.final[j] = false)) (fun g => a.final.length - g.1) (0, V) ⟨Nat.zero_le _, hV, fun j _ h => by simp at h⟩ ⟨rfl, trivial⟩ (by simp only [args0, Nat.reduceAdd, del, memN, beqN, Nat.reduceBEq, cond_true, cond_false]; rfl) rfl rfl ?_
            rintro ⟨i, V⟩ ⟨hi, hV, hfi⟩
            dsimp only at hi hV hfi
            dsimp only [List.set, List.cons_append, List.nil_append]
            refine K_seq ?_
            refine K_seq ?_
            refine K_region ?_
            refine KV (R_move rfl) rfl ?_
            refine KV (R_fieldAddr 3 fd42_3 rfl) rfl ?_
            refine KV (R_loadO ty25 0 rfl rfl rfl rfl (fun _ => rfl) rfl) rfl ?_
            refine KV (R_len sl25 rfl) rfl ?_
            refine KV (R_cmp rfl rfl rfl) rfl ?_
            refine K_nil ?_
            refine Q_then ?_
            refine K_if rfl (fun h85 => ?_) (fun h85 => ?_)
            ·
              have hi' : i < a.final.length := by omega
              obtain ⟨tb, to_, hte, hta⟩ := (ha.mono hV).f.get hi'
              cases hte
              refine K_skip ?_
              refine Q_then ?_
              refine K_seq ?_
              refine K_block ?_
              refine K_seq ?_
              refine K_regionD (fin := false) (R := [0, 1, 2, 3, 4, 5, 6, 7]) (by kernel_rfl) mixed (.cons_cons _ (List.nil_sublist _)) ?_
              refine D_val rfl rfl rfl (R_loadO ty42 0 rfl rfl rfl rfl (fun e => by cases e) rfl) ?_
              refine D_val rfl rfl rfl (R_fieldAddr 3 fd42_3 rfl) ?_
              refine D_val rfl rfl rfl (R_loadO ty25 0 rfl rfl rfl rfl (fun _ => rfl) rfl) ?_
              refine D_val rfl rfl rfl (R_move rfl) ?_
              refine D_val rfl rfl rfl (R_indexN sl25 ty3 rfl rfl (by omega)) ?_
              refine D_val rfl rfl rfl (R_loadH ty3 rfl (hta) rfl (fun _ => rfl) rfl) ?_
              refine D_call rfl rfl c55 rfl ⟨⟨0, rfl⟩, trivial⟩ (there_spec _ _ _ a.states a.final[i] V) ?_
              rintro _ U1 hU1 rfl
              refine D_val rfl rfl rfl (R_not rfl) ?_
              refine D_done ?_
              refine Q_then ?_
              refine K_ifB rfl (fun h95 => ?_) (fun h95 => ?_)
              ·
                have h95' : badQ a.states a.final[i] = true := by simpa using h95
                refine K_seq ?_
                refine K_region ?_
                refine KV (R_assign rfl) rfl ?_
                refine K_nil ?_
                refine Q_then ?_
                refine K_ret ?_
                refine Q_block_ret ?_
                refine Q_then_ret ?_
                refine Q_then_ret ?_
                refine Q_block_ret ?_
                refine Q_then_ret ?_
                refine results_gen (rs := [.tmp 2]) (vs := [_]) rfl ⟨rfl, trivial⟩ ?_
                have hany : a.final.any (badQ a.states) = true := List.any_eq_true.2 ⟨_, List.getElem_mem hi', h95'⟩
                rw [hbase, if_pos hany]
                rfl
              ·
                have h95' : badQ a.states a.final[i] = false := by simpa using h95
                have hfi2 : ∀ j (h : j < a.final.length), j < i + 1 → badQ a.states a.final[j] = false := by
                  intro j h hj
                  by_cases e : j = i
                  · subst e; exact h95'
                  · exact hfi j h (by omega)
                refine K_skip ?_
                refine Q_block ?_
                refine Q_then ?_
                refine K_region ?_
                refine KV (R_move rfl) rfl ?_
                refine KV (R_add rfl rfl (by omega)) rfl ?_
                refine KV (R_assign rfl) rfl ?_
                refine K_nil ?_
                refine Q_nextD (i + 1, U1) ⟨hi', hV.trans hU1, hfi2⟩ (by (try dsimp only); omega) ⟨rfl, trivial⟩ rfl rfl rfl
            ·
              have hi' : i = a.final.length := by omega
              refine K_exit ?_
              refine Q_then_exit ?_
              refine Q_then_exit ?_
              refine Q_block_exit ?_
              refine Q_then ?_
              refine K_seq ?_
              refine K_region ?_
              refine KV (R_assign rfl) rfl ?_
              refine K_nil ?_
              refine Q_then ?_
              refine K_ret ?_
              refine results_gen (rs := [.tmp 2]) (vs := [_]) rfl ⟨rfl, trivial⟩ ?_
              have hany : a.final.any (badQ a.states) = false := by
                rw [List.any_eq_false]
                intro x hx
                obtain ⟨j, hj, rfl⟩ := List.getElem_of_mem hx
                simp [hfi j hj (by omega)]
              rw [hbase, hany]
              rfl
end Go.Proofs.X

namespace Go.Proofs.X
open Go Pal Go.Proofs
attribute [local irreducible] Pal.KO Pal.KC Pal.KQ Pal.KD

theorem few_spec (a : Au) (vr vu vf : Value) (H : View) (ha : RepAu H a vr vu vf) : Sat Tryz.prog F15 #[.agg #[vr, .int .i64 a.states, vu, vf]] H (fun r _ => r = .bool (decide (a.ranks.length ≤ 8 ∧ a.states ≤ 6 ∧ a.rules.length ≤ 14 ∧ a.final.length ≤ 12))) := by
  obtain ⟨ra, rcp, rfl⟩ := ha.r.shape
  obtain ⟨fa, fcp, rfl⟩ := ha.f.shape
  obtain ⟨ua, ucp, rfl⟩ := ha.ushape
  refine enterO (n := 24) (args := [.agg #[.slice ra a.ranks.length rcp, .int .i64 a.states, .slice ua a.rules.length ucp, .slice fa a.final.length fcp]]) Tryz.func10 rfl rfl rfl fun w0 => ?_
  refine K_seq ?_
  refine K_region ?_
  refine KA (A_box rfl) rfl fun b1 => ?_
  refine KV (R_assign rfl) rfl ?_
  refine K_nil ?_
  refine Q_then ?_
  refine K_seq ?_
  refine K_region ?_
  refine KV (R_fieldAddr 0 fd42_0 rfl) rfl ?_
  refine KV (R_loadO ty25 0 rfl rfl rfl rfl (fun _ => rfl) rfl) rfl ?_
  refine KV (R_len sl25 rfl) rfl ?_
  refine KV (R_cmp rfl rfl rfl) rfl ?_
  refine KV (R_move rfl) rfl ?_
  refine K_split ?_ ?_
  ·
    intro h7
    refine K_gyes rfl rfl ?_
    refine KV (R_fieldAddr 1 fd42_1 rfl) rfl ?_
    refine K_gyes rfl rfl ?_
    refine KV (R_loadO ty3 0 rfl rfl rfl rfl (fun _ => rfl) rfl) rfl ?_
    refine K_gyes rfl rfl ?_
    refine KV (R_cmp rfl rfl rfl) rfl ?_
    refine KV (R_pickT rfl rfl) rfl ?_
    refine KV (R_move rfl) rfl ?_
    refine K_split ?_ ?_
    ·
      intro h12
      refine K_gyes rfl rfl ?_
      refine KV (R_fieldAddr 2 fd42_2 rfl) rfl ?_
      refine K_gyes rfl rfl ?_
      refine KV (R_loadO ty40 0 rfl rfl rfl rfl (fun _ => rfl) rfl) rfl ?_
      refine K_gyes rfl rfl ?_
      refine KV (R_len sl40 rfl) rfl ?_
      refine K_gyes rfl rfl ?_
      refine KV (R_cmp rfl rfl rfl) rfl ?_
      refine KV (R_pickT rfl rfl) rfl ?_
      refine KV (R_move rfl) rfl ?_
      refine K_split ?_ ?_
      ·
        intro h18
        refine K_gyes rfl rfl ?_
        refine KV (R_fieldAddr 3 fd42_3 rfl) rfl ?_
        refine K_gyes rfl rfl ?_
        refine KV (R_loadO ty25 0 rfl rfl rfl rfl (fun _ => rfl) rfl) rfl ?_
        refine K_gyes rfl rfl ?_
        refine KV (R_len sl25 rfl) rfl ?_
        refine K_gyes rfl rfl ?_
        refine KV (R_cmp rfl rfl rfl) rfl ?_
        refine KV (R_pickT rfl rfl) rfl ?_
        refine KV (R_assign rfl) rfl ?_
        refine K_nil ?_
        refine Q_then ?_
        refine K_ret ?_
        refine results_gen (rs := [.tmp 2]) (vs := [_]) rfl ⟨rfl, trivial⟩ ?_
        refine congrArg Value.bool ?_
        first | (simp only [decide_eq_decide]; omega) | (symm; simp only [decide_eq_false_iff_not]; omega)
      ·
        intro h18
        refine K_gno rfl rfl rfl rfl ?_
        refine K_gno rfl rfl rfl rfl ?_
        refine K_gno rfl rfl rfl rfl ?_
        refine K_gno rfl rfl rfl rfl ?_
        refine KV (R_pickF rfl rfl) rfl ?_
        refine KV (R_assign rfl) rfl ?_
        refine K_nil ?_
        refine Q_then ?_
        refine K_ret ?_
        refine results_gen (rs := [.tmp 2]) (vs := [_]) rfl ⟨rfl, trivial⟩ ?_
        refine congrArg Value.bool ?_
        first | (simp only [decide_eq_decide]; omega) | (symm; simp only [decide_eq_false_iff_not]; omega)
    ·
      intro h12
      refine K_gno rfl rfl rfl rfl ?_
      refine K_gno rfl rfl rfl rfl ?_
      refine K_gno rfl rfl rfl rfl ?_
      refine K_gno rfl rfl rfl rfl ?_
      refine KV (R_pickF rfl rfl) rfl ?_
      refine KV (R_move rfl) rfl ?_
      refine K_gno rfl rfl rfl rfl ?_
      refine K_gno rfl rfl rfl rfl ?_
      refine K_gno rfl rfl rfl rfl ?_
      refine K_gno rfl rfl rfl rfl ?_
      refine KV (R_pickF rfl rfl) rfl ?_
      refine KV (R_assign rfl) rfl ?_
      refine K_nil ?_
      refine Q_then ?_
      refine K_ret ?_
      refine results_gen (rs := [.tmp 2]) (vs := [_]) rfl ⟨rfl, trivial⟩ ?_
      refine congrArg Value.bool ?_
      first | (simp only [decide_eq_decide]; omega) | (symm; simp only [decide_eq_false_iff_not]; omega)
  ·
    intro h7
    refine K_gno rfl rfl rfl rfl ?_
    refine K_gno rfl rfl rfl rfl ?_
    refine K_gno rfl rfl rfl rfl ?_
    refine KV (R_pickF rfl rfl) rfl ?_
    refine KV (R_move rfl) rfl ?_
    refine K_gno rfl rfl rfl rfl ?_
    refine K_gno rfl rfl rfl rfl ?_
    refine K_gno rfl rfl rfl rfl ?_
    refine K_gno rfl rfl rfl rfl ?_
    refine KV (R_pickF rfl rfl) rfl ?_
    refine KV (R_move rfl) rfl ?_
    refine K_gno rfl rfl rfl rfl ?_
    refine K_gno rfl rfl rfl rfl ?_
    refine K_gno rfl rfl rfl rfl ?_
    refine K_gno rfl rfl rfl rfl ?_
    refine KV (R_pickF rfl rfl) rfl ?_
    refine KV (R_assign rfl) rfl ?_
    refine K_nil ?_
    refine Q_then ?_
    refine K_ret ?_
    refine results_gen (rs := [.tmp 2]) (vs := [_]) rfl ⟨rfl, trivial⟩ ?_
    refine congrArg Value.bool ?_
    first | (simp only [decide_eq_decide]; omega) | (symm; simp only [decide_eq_false_iff_not]; omega)

end Go.Proofs.X

namespace Go.Proofs.X
open Go Pal Go.Proofs
attribute [local irreducible] Pal.KO Pal.KC Pal.KQ Pal.KD
theorem z50 : zeroOk Tryz.prog T50 (.agg #[.slice none 0 0, .int .i64 0, .slice none 0 0, .slice none 0 0]) := .of (by kernel_rfl)
theorem pl50 : placesOk Tryz.prog T50 [(0, 1), (1, 1), (2, 1), (3, 1)] := ⟨_, Tryz.underlying36, by kernel_rfl⟩
theorem pl85 : placesOk Tryz.prog T85 [(0, 1), (1, 1), (2, 1)] := ⟨_, Tryz.underlying94, by kernel_rfl⟩
theorem ap48 : App Tryz.prog T48 T85 3 40 := .of sl48 (by kernel_rfl)
theorem to_spec (a : Au) (vr vu vf : Value) (H : View) (ha : RepAu H a vr vu vf) : Sat Tryz.prog F17 #[.agg #[vr, .int .i64 a.states, vu, vf]] H (fun r H' => ∃ v1 v2 v3, r = .agg #[v1, .int .i64 a.states, v2, v3] ∧ RepAu H' a v1 v2 v3) := by
  obtain ⟨ra, rcp, rfl⟩ := ha.r.shape
  obtain ⟨fa, fcp, rfl⟩ := ha.f.shape
  obtain ⟨ua, ucp, rfl⟩ := ha.ushape
  have hrl := ha.rl
  have hul := ha.ul
  have hfl := ha.fl
  refine enterO (n := 50) (args := [.agg #[.slice ra a.ranks.length rcp, .int .i64 a.states, .slice ua a.rules.length ucp, .slice fa a.final.length fcp]]) Tryz.func12 rfl rfl rfl fun w0 => ?_
  refine K_seq ?_
  refine K_region ?_
  refine KA (A_box rfl) rfl fun b1 => ?_
  refine KA (A_alloc z50) rfl fun b2 => ?_
  refine K_nil ?_
  refine Q_then ?_
  refine K_seq ?_
  refine K_regionD (fin := true) (R := [1, 2, 4, 5, 7, 8, 0, 3, 6, 9, 10, 11, 12]) (by kernel_rfl) mixed (.cons _ (.cons_cons _ (List.nil_sublist _))) ?_
  refine D_val rfl rfl rfl (R_fieldAddr 0 fd42_0 rfl) ?_
  refine D_val rfl rfl rfl (R_loadO ty25 0 rfl rfl rfl rfl (fun _ => rfl) rfl) ?_
  refine D_val rfl rfl rfl (R_fieldAddr 1 fd42_1 rfl) ?_
  refine D_val rfl rfl rfl (R_loadO ty3 0 rfl rfl rfl rfl (fun _ => rfl) rfl) ?_
  refine D_val rfl rfl rfl (R_fieldAddr 3 fd42_3 rfl) ?_
  refine D_val rfl rfl rfl (R_loadO ty25 0 rfl rfl rfl rfl (fun _ => rfl) rfl) ?_
  refine D_alloc rfl rfl rfl (A_buildSlice (vs := []) sl47 ty3 z3 rfl rfl (by simp) (by simp) rfl (by decide)) fun b5 => ?_
  refine D_append0 0 ap47 sl25 rfl rfl rfl rfl rfl ⟨⟨1, rfl⟩, trivial⟩ ha.r.1 (by simp [ints]) (ints_one _) ⟨by omega, by omega⟩ fun a8 k8 => ?_

  refine D_alloc rfl rfl rfl (A_buildSlice (vs := []) sl25 ty3 z3 rfl rfl (by simp) (by simp) rfl (by decide)) fun b11 => ?_
  refine D_append0 0 ap25 sl25 rfl rfl rfl rfl rfl ⟨⟨2, rfl⟩, trivial⟩ ha.f.1 (by simp [ints]) (ints_one _) ⟨by omega, by omega⟩ fun a14 k14 => ?_

  refine D_val rfl rfl rfl (R_build z50 pl50 rfl rfl) ?_
  refine D_alloc rfl rfl rfl (A_alloc z50) fun b3 => ?_
  refine D_lastStore ty50 0 rfl rfl rfl rfl rfl rfl rfl rfl ?_
  refine KQ_front 2 rfl ?_
  refine KQ_pubrow rfl fun V0 hv0 hrow8 => ?_
  refine KQ_front 1 rfl ?_
  refine KQ_pubrow rfl fun V1 hv1 hrow14 => ?_
  refine Q_then ?_
  refine K_seq ?_
  refine K_seq ?_
  refine K_region ?_
  refine KV (R_assign rfl) rfl ?_
  refine K_nil ?_
  refine Q_then ?_
  refine K_block ?_
  refine K_nilrow T85 3 ?_
  refine K_loopD (G := Nat × View × Value × List Value) [4, 16, 17, 18, 19, 20, 21, 22, 23, 24, 25, 26, 27, 28, 29, 30, 31, 32, 33, 34, 35, 36, 37, 38, 39, 40, 41, 42, 43, 44, 45, 46, 47, 48] (fun g => [(4, .int .i64 (g.1 : Int))]) (fun hl g => ((hl.set 0 (row g.2.2.1 T85 3 g.1 g.2.2.2)).set 1 (blk b3 (.cells #[.slice a8 a.ranks.length k8, .int .i64 a.states, g.2.2.1, .slice a14 a.final.length k14] T50 (0, 0))))) (fun g => g.2.1) (fun g => (g.1 ≤ a.rules.length) ∧ (VLe V1 g.2.1) ∧ (RepL (RepR g.2.1) 3 (a.rules.take g.1) g.2.2.2) ∧ (∃ ad cp, g.2.2.1 = .slice ad g.1 cp)) (fun g => a.rules.length - g.1) (0, V1, nilS, []) ⟨Nat.zero_le _, VLe.refl _, .nil, none, 0, rfl⟩ ⟨rfl, trivial⟩ (by simp only [args0, Nat.reduceAdd, del, memN, beqN, Nat.reduceBEq, cond_true, cond_false]; rfl) rfl rfl ?_
  rintro ⟨k, V, w, cells⟩ ⟨hk, hV, hC, hw⟩
  dsimp only at hk hV hC hw
  dsimp only [List.set, List.cons_append, List.nil_append]
  obtain ⟨wa, wcp, rfl⟩ := hw
  refine K_seq ?_
  refine K_seq ?_
  refine K_region ?_
  refine KV (R_move rfl) rfl ?_
  refine KV (R_fieldAddr 2 fd42_2 rfl) rfl ?_
  refine KV (R_loadO ty40 3 rfl rfl rfl rfl (fun _ => rfl) rfl) rfl ?_
  refine KV (R_len sl40 rfl) rfl ?_
  refine KV (R_cmp rfl rfl rfl) rfl ?_
  refine K_nil ?_
  refine Q_then ?_
  refine K_if rfl (fun h20 => ?_) (fun h20 => ?_)
  ·
    have hk' : k < a.rules.length := by omega
    obtain ⟨ub, uo, ucp2, xa, xcp, hue, hrc, hsr, hsym, hto, hxl⟩ := (ha.mono (hv0.trans (hv1.trans hV))).rule hk'
    cases hue
    refine K_skip ?_
    refine Q_then ?_
    refine K_seq ?_
    refine K_block ?_
    refine K_regionD (fin := true) (R := [0, 1, 2, 3, 4, 5, 6, 7, 9, 10, 11, 12, 13, 14, 16, 17, 18, 19, 20, 21, 8, 15, 22, 23, 24, 25, 26]) (by kernel_rfl) mixed (.cons _ (.cons_cons _ (.cons _ (.cons_cons _ (List.nil_sublist _))))) ?_
    refine D_val rfl rfl rfl (R_fieldAddr 2 fd50_2 rfl) ?_
    refine D_val rfl rfl rfl (R_loadO ty48 0 rfl rfl rfl rfl (fun _ => rfl) rfl) ?_
    refine D_val rfl rfl rfl (R_fieldAddr 2 fd42_2 rfl) ?_
    refine D_val rfl rfl rfl (R_loadO ty40 1 rfl rfl rfl rfl (fun _ => rfl) rfl) ?_
    refine D_val rfl rfl rfl (R_move rfl) ?_
    refine D_val rfl rfl rfl (R_indexN sl40 ty100 rfl rfl (by omega)) ?_
    refine D_val rfl rfl rfl (R_fieldAddr 0 fd100_0 rfl) ?_
    refine D_val rfl rfl rfl (R_loadH ty3 rfl (At.one (j := 0) hrc rfl) rfl (fun _ => rfl) rfl) ?_
    refine D_val rfl rfl rfl (R_fieldAddr 2 fd42_2 rfl) ?_
    refine D_val rfl rfl rfl (R_loadO ty40 1 rfl rfl rfl rfl (fun _ => rfl) rfl) ?_
    refine D_val rfl rfl rfl (R_move rfl) ?_
    refine D_val rfl rfl rfl (R_indexN sl40 ty100 rfl rfl (by omega)) ?_
    refine D_val rfl rfl rfl (R_fieldAddr 1 fd100_1 rfl) ?_
    refine D_val rfl rfl rfl (R_loadH ty25 rfl (At.one (j := 1) hrc rfl) rfl (fun _ => rfl) rfl) ?_
    refine D_val rfl rfl rfl (R_fieldAddr 2 fd42_2 rfl) ?_
    refine D_val rfl rfl rfl (R_loadO ty40 1 rfl rfl rfl rfl (fun _ => rfl) rfl) ?_
    refine D_val rfl rfl rfl (R_move rfl) ?_
    refine D_val rfl rfl rfl (R_indexN sl40 ty100 rfl rfl (by omega)) ?_
    refine D_val rfl rfl rfl (R_fieldAddr 2 fd100_2 rfl) ?_
    refine D_val rfl rfl rfl (R_loadH ty3 rfl (At.one (j := 2) hrc rfl) rfl (fun _ => rfl) rfl) ?_
    refine D_alloc rfl rfl rfl (A_buildSlice (vs := []) sl25 ty3 z3 rfl rfl (by simp) (by simp) rfl (by decide)) fun b31 => ?_
    refine D_append0 0 ap25 sl25 rfl rfl rfl rfl rfl ⟨⟨1, rfl⟩, ⟨3, rfl⟩, trivial⟩ hsr.1 (by simp [ints]) (ints_one _) ⟨by omega, by omega⟩ fun a38 k38 => ?_

    refine D_val rfl rfl rfl (R_build z85 pl85 rfl rfl) ?_
    refine D_alloc rfl rfl rfl (A_buildSlice (vs := [.agg #[.int .i64 a.rules[k].sym, .slice a38 a.rules[k].args.length k38, .int .i64 a.rules[k].to]]) sl48 ty85 z85 rfl rfl (by simp [Value.cells]) (by simp) rfl (by decide)) fun b46 => ?_
    refine D_append1 1 ap48 rfl rfl rfl rfl rfl rfl ⟨⟨1, rfl⟩, ⟨3, rfl⟩, trivial⟩ rfl rfl ⟨by omega, by omega⟩ fun a47 k47 hn47 => ?_
    refine D_val rfl rfl rfl (R_fieldAddr 2 fd50_2 rfl) ?_
    refine D_lastStore ty48 2 rfl rfl rfl rfl rfl rfl rfl rfl ?_
    refine KQ_front 1 rfl ?_
    refine KQ_pubrow rfl fun U hU hrow38 => ?_
    refine Q_block ?_
    refine Q_then ?_
    refine K_region ?_
    refine KV (R_move rfl) rfl ?_
    refine KV (R_add rfl rfl (by omega)) rfl ?_
    refine KV (R_assign rfl) rfl ?_
    refine K_nil ?_
    refine Q_nextD (k + 1, U, .slice a47 (k + 1) k47, cells ++ [.int .i64 a.rules[k].sym, .slice a38 a.rules[k].args.length k38, .int .i64 a.rules[k].to]) ⟨hk', hV.trans hU, by rw [List.take_succ_eq_append_getElem hk']; exact (hC.imp fun x cs h => h.mono hU).snoc ⟨_, _, rfl, ⟨hrow38.sl, hsr.2⟩, hsym, hto, hxl⟩ rfl, _, _, rfl⟩ (by (try dsimp only); omega) ⟨rfl, trivial⟩ rfl rfl rfl
  ·
    have hk' : k = a.rules.length := by omega
    subst hk'
    rw [List.take_length] at hC
    refine K_exit ?_
    refine Q_then_exit ?_
    refine Q_then_exit ?_
    refine Q_block_exit ?_
    refine Q_then ?_
    refine K_seq ?_
    refine K_region ?_
    refine KV (R_loadO ty50 1 rfl rfl rfl rfl (fun e => by cases e) rfl) rfl ?_
    refine K_store ty50 2 rfl rfl rfl rfl rfl rfl ?_
    refine K_nil ?_
    refine Q_then ?_
    refine K_ret ?_
    refine KQ_pubrow rfl fun Hp hp hrow => ?_
    refine results_gen (rs := [.cell 2 36]) (vs := [_]) rfl ⟨⟨_, _, _, _, _, _, 1, rfl, rfl, ty50, (fun e => by cases e), rfl, rfl⟩, trivial⟩ ?_
    exact ⟨_, _, _, rfl, ⟨hrow8.sl.mono (hv1.trans (hV.trans hp)), ha.r.2⟩, ⟨cells, hrow.sl, hC.imp fun x cs h => h.mono hp⟩, ⟨hrow14.sl.mono (hV.trans hp), ha.f.2⟩, ha.s, hrl, hul, hfl⟩
end Go.Proofs.X

namespace Go.Proofs.X
open Go Pal Go.Proofs
attribute [local irreducible] Pal.KO Pal.KC Pal.KQ Pal.KD
theorem ty44 : Ty Tryz.prog T44 false 1 := .of (by kernel_rfl)
theorem ty52 : Ty Tryz.prog T52 false 1 := .of (by kernel_rfl)
theorem ty54 : Ty Tryz.prog T54 true 3 := .of (by kernel_rfl)
theorem sl44 : slcOk Tryz.prog T44 T25 := by unfold slcOk; kernel_rfl
theorem sl52 : slcOk Tryz.prog T52 T4 := by unfold slcOk; kernel_rfl
theorem fd54_0 : fldOk Tryz.prog T54 0 0 = true := by kernel_rfl
theorem fd54_1 : fldOk Tryz.prog T54 1 1 = true := by kernel_rfl
theorem fd54_2 : fldOk Tryz.prog T54 2 2 = true := by kernel_rfl
theorem c85 : callable Tryz.prog F85 = true := by kernel_rfl
theorem c87 : callable Tryz.prog F87 = true := by kernel_rfl
theorem c88 : callable Tryz.prog F88 = true := by kernel_rfl
theorem wide_spec (m n : Nat) (hm : m ≤ 2) (hn : n ≤ 512) (H : View) : Sat Tryz.prog F85 #[.int .i64 (m : Int), .int .i64 (n : Int)] H (fun r _ => r = .int .i64 ((n ^ m : Nat) : Int)) := by
  refine enterO (n := 14) (args := [.int .i64 (m : Int), .int .i64 (n : Int)]) Tryz.func78 rfl rfl rfl fun w0 => ?_
  refine K_seq ?_
  refine K_region ?_
  refine KV (R_assign rfl) rfl ?_
  refine K_nil ?_
  refine Q_then ?_
  refine K_seq ?_
  refine K_region ?_
  refine KV (R_assign rfl) rfl ?_
  refine K_nil ?_
  refine Q_then ?_
  refine K_seq ?_
  refine K_seq ?_
  refine K_region ?_
  refine KV (R_move rfl) rfl ?_
  refine KV (R_move rfl) rfl ?_
  refine K_nil ?_
  refine Q_then ?_
  refine K_block ?_
  refine K_loopD (G := Nat) [5, 7, 8, 9, 10, 11, 12] (fun g => [(7, .int .i64 (g : Int)), (5, .int .i64 ((n ^ g : Nat) : Int))]) (fun hl g => hl) (fun g => H) (fun g => (g ≤ m)) (fun g => m - g) 0 (Nat.zero_le _) ⟨rfl, rfl, trivial⟩ (by simp only [args0, Nat.reduceAdd, del, memN, beqN, Nat.reduceBEq, cond_true, cond_false]; rfl) rfl rfl ?_
  rintro k hk
  try dsimp only at hk
  dsimp only [List.set, List.cons_append, List.nil_append]
  refine K_seq ?_
  refine K_region ?_
  refine KV (R_cmp rfl rfl rfl) rfl ?_
  refine K_nil ?_
  refine Q_then ?_
  refine K_seq ?_
  refine K_if rfl (fun h8 => ?_) (fun h8 => ?_)
  ·
    have hk' : k < m := by omega
    have hp : n ^ k * n ≤ 512 * 512 := by
      refine Nat.mul_le_mul ?_ hn
      rcases Nat.eq_zero_or_pos k with e | e
      · subst e; simp
      · have : k = 1 := by omega
        subst this; simpa using hn
    have hp2 : ((n ^ k * n : Nat) : Int) = ((n ^ k : Nat) : Int) * (n : Int) := Int.natCast_mul _ _
    refine K_skip ?_
    refine Q_then ?_
    refine K_seq ?_
    refine K_block ?_
    refine K_region ?_
    refine KV (R_move rfl) rfl ?_
    refine KV (R_move rfl) rfl ?_
    refine KV (R_mul rfl rfl (by omega)) rfl ?_
    refine KV (R_assign rfl) rfl ?_
    refine K_nil ?_
    refine Q_block ?_
    refine Q_then ?_
    refine K_region ?_
    refine KV (R_add rfl rfl (by omega)) rfl ?_
    refine KV (R_move rfl) rfl ?_
    refine K_nil ?_
    refine Q_nextD (k + 1) hk' (by (try dsimp only); omega) ⟨rfl, congrArg (fun z => some (Value.int .i64 z)) (by rw [Nat.pow_succ]; exact (Int.natCast_mul _ _).symm), trivial⟩ rfl rfl rfl
  ·
    have hk' : k = m := by omega
    subst hk'
    refine K_exit ?_
    refine Q_then_exit ?_
    refine Q_then_exit ?_
    refine Q_block_exit ?_
    refine Q_then ?_
    refine K_seq ?_
    refine K_region ?_
    refine KV (R_move rfl) rfl ?_
    refine KV (R_assign rfl) rfl ?_
    refine K_nil ?_
    refine Q_then ?_
    refine K_ret ?_
    refine results_gen (rs := [.tmp 4]) (vs := [_]) rfl ⟨rfl, trivial⟩ ?_
    rfl

theorem dstate_spec (d : Dt) (q : Int) (v1 v2 v3 : Value) (H : View) (hd : RepDt H d v1 v2 v3) : Sat Tryz.prog F88 #[.agg #[v1, v2, v3], .int .i64 q] H (fun r _ => r = .bool (!badQ d.acc.length q)) := by
  obtain ⟨ua1, uc1x, rfl⟩ := hd.r.shape
  obtain ⟨ua2, uc2x, rfl⟩ := hd.a.shape
  obtain ⟨ua3, uc3x, rfl⟩ := hd.t.shape
  refine enterO (n := 14) (args := [.agg #[.slice ua1 d.ranks.length uc1x, .slice ua2 d.acc.length uc2x, .slice ua3 d.to.length uc3x], .int .i64 q]) Tryz.func80 rfl rfl rfl fun w0 => ?_
  refine K_seq ?_
  refine K_region ?_
  refine KA (A_box rfl) rfl fun b2 => ?_
  refine KV (R_assign rfl) rfl ?_
  refine K_nil ?_
  refine Q_then ?_
  refine K_seq ?_
  refine K_region ?_
  refine KV (R_move rfl) rfl ?_
  refine KV (R_cmp rfl rfl rfl) rfl ?_
  refine KV (R_move rfl) rfl ?_
  refine K_split ?_ ?_
  ·
    intro h7
    refine K_gyes rfl rfl ?_
    refine KV (R_move rfl) rfl ?_
    refine K_gyes rfl rfl ?_
    refine KV (R_fieldAddr 1 fd54_1 rfl) rfl ?_
    refine K_gyes rfl rfl ?_
    refine KV (R_loadO ty52 0 rfl rfl rfl rfl (fun _ => rfl) rfl) rfl ?_
    refine K_gyes rfl rfl ?_
    refine KV (R_len sl52 rfl) rfl ?_
    refine K_gyes rfl rfl ?_
    refine KV (R_cmp rfl rfl rfl) rfl ?_
    refine KV (R_pickT rfl rfl) rfl ?_
    refine KV (R_assign rfl) rfl ?_
    refine K_nil ?_
    refine Q_then ?_
    refine K_ret ?_
    refine results_gen (rs := [.tmp 4]) (vs := [_]) rfl ⟨rfl, trivial⟩ ?_
    simp [tupV, badQ, h7]
  ·
    intro h7
    refine K_gno rfl rfl rfl rfl ?_
    refine K_gno rfl rfl rfl rfl ?_
    refine K_gno rfl rfl rfl rfl ?_
    refine K_gno rfl rfl rfl rfl ?_
    refine K_gno rfl rfl rfl rfl ?_
    refine KV (R_pickF rfl rfl) rfl ?_
    refine KV (R_assign rfl) rfl ?_
    refine K_nil ?_
    refine Q_then ?_
    refine K_ret ?_
    refine results_gen (rs := [.tmp 4]) (vs := [_]) rfl ⟨rfl, trivial⟩ ?_
    simp [tupV, badQ, h7]

theorem dbad_spec (d : Dt) (b : Nat) (q : Int) (v1 v2 v3 : Value) (H : View) (hd : RepDt H d v1 v2 v3) (hb : At H b 0 [v1, v2, v3]) : Sat Tryz.prog F87 #[.int .i64 q, ptr b] H (fun r _ => r = .bool (badQ d.acc.length q)) := by
  refine enterO (n := 8) (args := [.int .i64 q, ptr b]) Tryz.func79 rfl rfl rfl fun w0 => ?_
  refine K_seq ?_
  refine K_region ?_
  refine KV (R_assign rfl) rfl ?_
  refine K_nil ?_
  refine Q_then ?_
  refine K_seq ?_
  refine K_region ?_
  refine KV (R_loadH ty54 rfl (hb) rfl (fun e => by cases e) rfl) rfl ?_
  refine KV (R_move rfl) rfl ?_
  refine K_call c88 rfl rfl (dstate_spec d q v1 v2 v3 H hd) ?_
  rintro _ V' hle rfl
  refine KV (R_not rfl) rfl ?_
  refine KV (R_assign rfl) rfl ?_
  refine K_nil ?_
  refine Q_then ?_
  refine K_ret ?_
  refine results_gen (rs := [.tmp 3]) (vs := [_]) rfl ⟨rfl, trivial⟩ ?_
  simp [tupV]

theorem dcheck_spec (d : Dt) (v1 v2 v3 : Value) (H : View) (hd : RepDt H d v1 v2 v3) (hb : d.ranks.length ≤ 1048576 ∧ d.acc.length ≤ 1048576 ∧ d.to.length ≤ 1048576 ∧ ∀ x ∈ d.to, x.length ≤ 1048576) : Sat Tryz.prog F63 #[.agg #[v1, v2, v3]] H (fun r _ => r = .int .i64 (dtErr d)) := by
  obtain ⟨hb1, hb2, hb3, hb4⟩ := hb
  obtain ⟨ua1, uc1x, rfl⟩ := hd.r.shape
  obtain ⟨ua2, uc2x, rfl⟩ := hd.a.shape
  obtain ⟨ua3, uc3x, rfl⟩ := hd.t.shape
  refine enterO (n := 61) (args := [.agg #[.slice ua1 d.ranks.length uc1x, .slice ua2 d.acc.length uc2x, .slice ua3 d.to.length uc3x]]) Tryz.func35 rfl rfl rfl fun w0 => ?_
  refine K_seq ?_
  refine K_region ?_
  refine KA (A_box rfl) rfl fun b1 => ?_
  refine KV (R_assign rfl) rfl ?_
  refine K_nil ?_
  refine KQ_pubblk (by intro x hx; simp [feet] at hx) fun V0 hle0 hb1_ => ?_
  have hA := At.of hb1_
  have hA0 := hA.one (j := 0) rfl
  have hA1 := hA.one (j := 1) rfl
  have hA2 := hA.one (j := 2) rfl
  refine Q_then ?_
  refine K_seq ?_
  refine K_seq ?_
  refine K_region ?_
  refine KV (R_fieldAddr 0 fd54_0 rfl) rfl ?_
  refine KV (R_loadH ty47 rfl (hA0) rfl (fun _ => rfl) rfl) rfl ?_
  refine K_call c72 rfl rfl (acheck_spec d.ranks _ V0 (hd.r.mono hle0) (by omega)) ?_
  rintro _ V1 hle1 rfl
  refine KV (R_assign rfl) rfl ?_
  refine K_nil ?_
  refine Q_then ?_
  refine K_seq ?_
  refine K_region ?_
  refine KV (R_move rfl) rfl ?_
  refine KV (R_cmp rfl rfl rfl) rfl ?_
  refine K_nil ?_
  refine Q_then ?_
  refine K_if rfl (fun h13 => ?_) (fun h13 => ?_)
  ·
    refine K_seq ?_
    refine K_region ?_
    refine KV (R_move rfl) rfl ?_
    refine KV (R_assign rfl) rfl ?_
    refine K_nil ?_
    refine Q_then ?_
    refine K_ret ?_
    refine Q_then_ret ?_
    refine results_gen (rs := [.tmp 2]) (vs := [_]) rfl ⟨rfl, trivial⟩ ?_
    simp only [tupV, dtErr]
    rw [if_pos h13]
  ·
    have hrks := (ranksErr_ok (Decidable.not_not.1 h13)).2
    refine K_skip ?_
    refine Q_then ?_
    refine K_seq ?_
    refine K_region ?_
    refine KV (R_fieldAddr 1 fd54_1 rfl) rfl ?_
    refine KV (R_loadH ty52 rfl (hA1.mono hle1) rfl (fun _ => rfl) rfl) rfl ?_
    refine KV (R_len sl52 rfl) rfl ?_
    refine KV (R_assign rfl) rfl ?_
    refine K_nil ?_
    refine Q_then ?_
    refine K_seq ?_
    refine K_seq ?_
    refine K_region ?_
    refine KV (R_move rfl) rfl ?_
    refine KV (R_cmp rfl rfl rfl) rfl ?_
    refine KV (R_move rfl) rfl ?_
    refine K_split ?_ ?_
    ·
      intro h20
      refine K_gno rfl rfl rfl rfl ?_
      refine K_gno rfl rfl rfl rfl ?_
      refine KV (R_pickT rfl rfl) rfl ?_
      refine K_nil ?_
      refine Q_then ?_
      refine K_ifT rfl ?_
      refine K_seq ?_
      refine K_region ?_
      refine KV (R_assign rfl) rfl ?_
      refine K_nil ?_
      refine Q_then ?_
      refine K_ret ?_
      refine Q_then_ret ?_
      refine results_gen (rs := [.tmp 2]) (vs := [_]) rfl ⟨rfl, trivial⟩ ?_
      simp only [tupV, dtErr]
      rw [if_neg h13, if_pos (by omega)]
    ·
      intro h20
      refine K_gyes rfl rfl ?_
      refine KV (R_move rfl) rfl ?_
      refine K_gyes rfl rfl ?_
      refine KV (R_cmp rfl rfl rfl) rfl ?_
      refine KV (R_pickF rfl rfl) rfl ?_
      refine K_nil ?_
      refine Q_then ?_
      refine K_if rfl (fun h23 => ?_) (fun h23 => ?_)
      ·
        refine K_seq ?_
        refine K_region ?_
        refine KV (R_assign rfl) rfl ?_
        refine K_nil ?_
        refine Q_then ?_
        refine K_ret ?_
        refine Q_then_ret ?_
        refine results_gen (rs := [.tmp 2]) (vs := [_]) rfl ⟨rfl, trivial⟩ ?_
        simp only [tupV, dtErr]
        rw [if_neg h13, if_pos (by omega)]
      ·
        refine K_skip ?_
        refine Q_then ?_
        refine K_seq ?_
        refine K_seq ?_
        refine K_region ?_
        refine KV (R_fieldAddr 2 fd54_2 rfl) rfl ?_
        refine KV (R_loadH ty44 rfl (hA2.mono hle1) rfl (fun _ => rfl) rfl) rfl ?_
        refine KV (R_len sl44 rfl) rfl ?_
        refine KV (R_fieldAddr 0 fd54_0 rfl) rfl ?_
        refine KV (R_loadH ty47 rfl (hA0.mono hle1) rfl (fun _ => rfl) rfl) rfl ?_
        refine KV (R_len sl47 rfl) rfl ?_
        refine KV (R_cmp rfl rfl rfl) rfl ?_
        refine K_nil ?_
        refine Q_then ?_
        refine K_if rfl (fun h30 => ?_) (fun h30 => ?_)
        ·
          refine K_seq ?_
          refine K_region ?_
          refine KV (R_assign rfl) rfl ?_
          refine K_nil ?_
          refine Q_then ?_
          refine K_ret ?_
          refine Q_then_ret ?_
          refine results_gen (rs := [.tmp 2]) (vs := [_]) rfl ⟨rfl, trivial⟩ ?_
          simp only [tupV, dtErr]
          rw [if_neg h13, if_neg (by omega), if_pos h30]
        ·
          refine K_skip ?_
          refine Q_then ?_
          refine K_seq ?_
          refine K_seq ?_
          refine K_region ?_
          refine KV (R_fieldAddr 2 fd54_2 rfl) rfl ?_
          refine KV (R_loadH ty44 rfl (hA2.mono hle1) rfl (fun _ => rfl) rfl) rfl ?_
          refine KV (R_len sl44 rfl) rfl ?_
          refine KV (R_move rfl) rfl ?_
          refine K_nil ?_
          refine Q_then ?_
          refine K_block ?_
          refine K_loopD (G := Nat × View) [2, 5, 6, 34, 35, 36, 37, 38, 39, 40, 41, 42, 43, 44, 45, 46, 47, 48, 49] (fun g => [(34, .int .i64 (g.1 : Int))]) (fun hl g => hl) (fun g => g.2) (fun g => (g.1 ≤ d.to.length) ∧ (VLe V0 g.2) ∧ (∀ j (h : j < d.to.length), j < g.1 → (d.to.getD j []).length = d.acc.length ^ (d.ranks.getD j 0).toNat)) (fun g => d.to.length - g.1) (0, V1) ⟨Nat.zero_le _, hle1, fun j _ h => by simp at h⟩ ⟨rfl, trivial⟩ (by simp only [args0, Nat.reduceAdd, del, memN, beqN, Nat.reduceBEq, cond_true, cond_false]; rfl) rfl rfl ?_
          rintro ⟨s, V⟩ ⟨hs, hV, hwid⟩
          dsimp only at hs hV hwid
          dsimp only [List.set, List.cons_append, List.nil_append]
          refine K_seq ?_
          refine K_region ?_
          refine KV (R_cmp rfl rfl rfl) rfl ?_
          refine K_nil ?_
          refine Q_then ?_
          refine K_seq ?_
          refine K_if rfl (fun h35 => ?_) (fun h35 => ?_)
          ·
            have hs' : s < d.to.length := by omega
            obtain ⟨tb, to_, ea, ecp, hte, hta, hes⟩ := (hd.mono (hle0.trans hV)).t.get hs'
            cases hte
            have hsm : s < d.ranks.length := by omega
            obtain ⟨rb, ro, hre, hrk⟩ := (hd.mono (hle0.trans hV)).r.get hsm
            cases hre
            have hrr := hrks s hsm
            have hgs : d.to.getD s [] = d.to[s] := by simp [List.getD, hs']
            have hgr : d.ranks.getD s 0 = d.ranks[s] := by simp [List.getD, hsm]
            refine K_skip ?_
            refine Q_then ?_
            refine K_seq ?_
            refine K_block ?_
            refine K_seq ?_
            refine K_region ?_
            refine KV (R_move rfl) rfl ?_
            refine KV (R_indexN sl44 ty25 rfl rfl (by omega)) rfl ?_
            refine KV (R_loadH ty25 rfl (hta) rfl (fun _ => rfl) rfl) rfl ?_
            refine KV (R_assign rfl) rfl ?_
            refine KV (R_assign rfl) rfl ?_
            refine K_nil ?_
            refine Q_then ?_
            refine K_seq ?_
            refine K_region ?_
            refine KV (R_move rfl) rfl ?_
            refine KV (R_len sl25 rfl) rfl ?_
            refine KV (R_fieldAddr 0 fd54_0 rfl) rfl ?_
            refine KV (R_loadH ty47 rfl (hA0.mono hV) rfl (fun _ => rfl) rfl) rfl ?_
            refine KV (R_move rfl) rfl ?_
            refine KV (R_indexN sl47 ty3 rfl rfl (by omega)) rfl ?_
            refine KV (R_loadH ty3 rfl (hrk) rfl (fun _ => rfl) rfl) rfl ?_
            refine KV (R_move rfl) rfl ?_
            rw [show d.ranks[s] = ((d.ranks[s].toNat : Nat) : Int) by omega]
            refine K_call c85 rfl rfl (wide_spec d.ranks[s].toNat d.acc.length (by omega) (by omega) V) ?_
            rintro _ V2 hv2 rfl
            refine KV (R_cmp rfl rfl rfl) rfl ?_
            refine K_nil ?_
            refine Q_then ?_
            refine K_if rfl (fun h48 => ?_) (fun h48 => ?_)
            ·
              have hwb : widthBad d = true := by
                unfold widthBad
                rw [List.any_eq_true]
                refine ⟨s, List.mem_range.2 hs', ?_⟩
                simp only [decide_eq_true_eq, hgs, hgr]
                omega
              refine K_seq ?_
              refine K_region ?_
              refine KV (R_assign rfl) rfl ?_
              refine K_nil ?_
              refine Q_then ?_
              refine K_ret ?_
              refine Q_block_ret ?_
              refine Q_then_ret ?_
              refine Q_then_ret ?_
              refine Q_block_ret ?_
              refine Q_then_ret ?_
              refine results_gen (rs := [.tmp 2]) (vs := [_]) rfl ⟨rfl, trivial⟩ ?_
              simp only [tupV, dtErr]
              rw [if_neg h13, if_neg (by omega), if_neg h30, if_pos hwb]
            ·
              have hwid2 : ∀ j (h : j < d.to.length), j < s + 1 → (d.to.getD j []).length = d.acc.length ^ (d.ranks.getD j 0).toNat := by
                intro j h hj
                by_cases e : j = s
                · subst e; rw [hgs, hgr]; omega
                · exact hwid j h (by omega)
              refine K_skip ?_
              refine Q_block ?_
              refine Q_then ?_
              refine K_region ?_
              refine KV (R_add rfl rfl (by omega)) rfl ?_
              refine KV (R_move rfl) rfl ?_
              refine K_nil ?_
              refine Q_nextD (s + 1, V2) ⟨hs', hV.trans hv2, hwid2⟩ (by (try dsimp only); omega) ⟨rfl, trivial⟩ rfl rfl rfl
          ·
            have hwb : widthBad d = false := by
              unfold widthBad
              rw [List.any_eq_false]
              intro s hs
              have hs2 := List.mem_range.1 hs
              have := hwid s hs2 (by omega)
              simpa using this
            refine K_exit ?_
            refine Q_then_exit ?_
            refine Q_then_exit ?_
            refine Q_block_exit ?_
            refine Q_then ?_
            refine K_seq ?_
            refine K_seq ?_
            refine K_region ?_
            refine KV (R_fieldAddr 2 fd54_2 rfl) rfl ?_
            refine KV (R_loadH ty44 rfl (hA2.mono hV) rfl (fun _ => rfl) rfl) rfl ?_
            refine KV (R_len sl44 rfl) rfl ?_
            refine KV (R_move rfl) rfl ?_
            refine K_nil ?_
            refine Q_then ?_
            refine K_block ?_
            refine K_loopD (G := Nat × View) [2, 8, 53, 54, 55, 56, 57, 58, 59, 60] (fun g => [(53, .int .i64 (g.1 : Int))]) (fun hl g => hl) (fun g => g.2) (fun g => (g.1 ≤ d.to.length) ∧ (VLe V0 g.2) ∧ (∀ j (h : j < d.to.length), j < g.1 → d.to[j].any (badQ d.acc.length) = false)) (fun g => d.to.length - g.1) (0, V) ⟨Nat.zero_le _, hV, fun j _ h => by simp at h⟩ ⟨rfl, trivial⟩ (by simp only [args0, Nat.reduceAdd, del, memN, beqN, Nat.reduceBEq, cond_true, cond_false]; rfl) rfl rfl ?_
            rintro ⟨s, V⟩ ⟨hs, hV, hent⟩
            dsimp only at hs hV hent
            dsimp only [List.set, List.cons_append, List.nil_append]
            refine K_seq ?_
            refine K_region ?_
            refine KV (R_cmp rfl rfl rfl) rfl ?_
            refine K_nil ?_
            refine Q_then ?_
            refine K_seq ?_
            refine K_if rfl (fun h54 => ?_) (fun h54 => ?_)
            ·
              have hs' : s < d.to.length := by omega
              obtain ⟨tb, to_, ea, ecp, hte, hta, hes⟩ := (hd.mono (hle0.trans hV)).t.get hs'
              cases hte
              refine K_skip ?_
              refine Q_then ?_
              refine K_seq ?_
              refine K_block ?_
              refine K_seq ?_
              refine K_region ?_
              refine KV (R_indexN sl44 ty25 rfl rfl (by omega)) rfl ?_
              refine KV (R_loadH ty25 rfl (hta) rfl (fun _ => rfl) rfl) rfl ?_
              refine KV (R_assign rfl) rfl ?_
              refine K_nil ?_
              refine Q_then ?_
              refine K_seq ?_
              refine K_region ?_
              refine KV (R_move rfl) rfl ?_
              refine KV (R_makeFunc rfl rfl) rfl ?_
              refine K_call c86 rfl rfl (sicon_spec F87 [ptr b1] (badQ d.acc.length) d.to[s] _ V hes (Nat.le_trans (hb4 _ (List.getElem_mem hs')) (by decide)) c87 (fun x W _ hW => dbad_spec d b1 x _ _ _ W (hd.mono (hle0.trans (hV.trans hW))) (hA.mono (hV.trans hW)))) ?_
              rintro _ V2 hle2 rfl
              refine K_nil ?_
              refine Q_then ?_
              refine K_ifB rfl (fun h59 => ?_) (fun h59 => ?_)
              ·
                have heb : entryBad d = true := List.any_eq_true.2 ⟨_, List.getElem_mem hs', h59⟩
                refine K_seq ?_
                refine K_region ?_
                refine KV (R_assign rfl) rfl ?_
                refine K_nil ?_
                refine Q_then ?_
                refine K_ret ?_
                refine Q_block_ret ?_
                refine Q_then_ret ?_
                refine Q_then_ret ?_
                refine Q_block_ret ?_
                refine Q_then_ret ?_
                refine results_gen (rs := [.tmp 2]) (vs := [_]) rfl ⟨rfl, trivial⟩ ?_
                simp only [tupV, dtErr]
                rw [if_neg h13, if_neg (by omega), if_neg h30, hwb, heb]
                rfl
              ·
                have hent2 : ∀ j (h : j < d.to.length), j < s + 1 → d.to[j].any (badQ d.acc.length) = false := by
                  intro j h hj
                  by_cases e : j = s
                  · subst e; exact h59
                  · exact hent j h (by omega)
                refine K_skip ?_
                refine Q_block ?_
                refine Q_then ?_
                refine K_region ?_
                refine KV (R_add rfl rfl (by omega)) rfl ?_
                refine KV (R_move rfl) rfl ?_
                refine K_nil ?_
                refine Q_nextD (s + 1, V2) ⟨hs', hV.trans hle2, hent2⟩ (by (try dsimp only); omega) ⟨rfl, trivial⟩ rfl rfl rfl
            ·
              have heb : entryBad d = false := by
                unfold entryBad
                rw [List.any_eq_false]
                intro x hx
                obtain ⟨j, hj, rfl⟩ := List.getElem_of_mem hx
                simp [hent j hj (by omega)]
              refine K_exit ?_
              refine Q_then_exit ?_
              refine Q_then_exit ?_
              refine Q_block_exit ?_
              refine Q_then ?_
              refine K_seq ?_
              refine K_region ?_
              refine KV (R_assign rfl) rfl ?_
              refine K_nil ?_
              refine Q_then ?_
              refine K_ret ?_
              refine results_gen (rs := [.tmp 2]) (vs := [_]) rfl ⟨rfl, trivial⟩ ?_
              simp only [tupV, dtErr]
              rw [if_neg h13, if_neg (by omega), if_neg h30, hwb, heb]
              rfl
end Go.Proofs.X

namespace Go.Proofs.X
open Go Pal Go.Proofs
attribute [local irreducible] Pal.KO Pal.KC Pal.KQ Pal.KD
theorem fd30_0 : fldOk Tryz.prog T30 0 0 = true := by kernel_rfl
theorem c75 : callable Tryz.prog F75 = true := by kernel_rfl
theorem c114 : callable Tryz.prog F114 = true := by kernel_rfl
theorem c115 : callable Tryz.prog F115 = true := by kernel_rfl
theorem c118 : callable Tryz.prog F118 = true := by kernel_rfl
theorem c119 : callable Tryz.prog F119 = true := by kernel_rfl
theorem rnodes_spec (rk : List Int) (rv : Value) (hrkl : rk.length ≤ 1099511627776) : ∀ m t H cs, t.size ≤ m → m ≤ 1099511627776 → RepT H t cs → SI H rv rk → Sat Tryz.prog F75 #[rv, .agg cs.toArray] H (fun r _ => r = .int .i64 (Tr.nodesErr rk t)) := by
  intro m
  induction m with
  | zero => intro t H cs h; have := t.size_pos; omega
  | succ m ih =>
  intro t H cs hm hb hr hrv
  cases hr with | mk s ts a cap b off cs' hs ha hA hrec =>
  obtain ⟨va, vc, rfl⟩ := hrv.shape
  have hsz : (Tr.node s ts).size = 1 + Tr.sizes ts := rfl
  have hln := Tr.length_le_sizes ts
  have hunf : Tr.nodesErr rk (.node s ts) = if s < 0 ∨ (rk.length : Int) ≤ s then 6 else if (ts.length : Int) ≠ rk.getD s.toNat 0 then 3 else Tr.nodesErrs rk ts := by simp only [Tr.nodesErr]
  refine enterO (n := 43) (args := [.slice va rk.length vc, .agg #[.int .i64 s, .slice a ts.length cap]]) Tryz.func76 rfl rfl rfl fun w0 => ?_
  refine K_seq ?_
  refine K_region ?_
  refine KA (A_box rfl) rfl fun b3 => ?_
  refine KV (R_assign rfl) rfl ?_
  refine K_nil ?_
  refine Q_then ?_
  refine K_seq ?_
  refine K_seq ?_
  refine K_region ?_
  refine KV (R_fieldAddr 0 fd24_0 rfl) rfl ?_
  refine KV (R_loadO ty3 0 rfl rfl rfl rfl (fun _ => rfl) rfl) rfl ?_
  refine KV (R_cmp rfl rfl rfl) rfl ?_
  refine KV (R_move rfl) rfl ?_
  refine K_split ?_ ?_
  ·
    intro h10
    refine K_gno rfl rfl rfl rfl ?_
    refine K_gno rfl rfl rfl rfl ?_
    refine K_gno rfl rfl rfl rfl ?_
    refine K_gno rfl rfl rfl rfl ?_
    refine K_gno rfl rfl rfl rfl ?_
    refine KV (R_pickT rfl rfl) rfl ?_
    refine K_nil ?_
    refine Q_then ?_
    refine K_ifT rfl ?_
    refine K_seq ?_
    refine K_region ?_
    refine KV (R_assign rfl) rfl ?_
    refine K_nil ?_
    refine Q_then ?_
    refine K_ret ?_
    refine Q_then_ret ?_
    refine results_gen (rs := [.tmp 4]) (vs := [_]) rfl ⟨rfl, trivial⟩ ?_
    rw [hunf, if_pos (.inl (by omega))]
    rfl
  ·
    intro h10
    refine K_gyes rfl rfl ?_
    refine KV (R_fieldAddr 0 fd24_0 rfl) rfl ?_
    refine K_gyes rfl rfl ?_
    refine KV (R_loadO ty3 0 rfl rfl rfl rfl (fun _ => rfl) rfl) rfl ?_
    refine K_gyes rfl rfl ?_
    refine KV (R_move rfl) rfl ?_
    refine K_gyes rfl rfl ?_
    refine KV (R_len sl25 rfl) rfl ?_
    refine K_gyes rfl rfl ?_
    refine KV (R_cmp rfl rfl rfl) rfl ?_
    refine KV (R_pickF rfl rfl) rfl ?_
    refine K_nil ?_
    refine Q_then ?_
    refine K_if rfl (fun h16 => ?_) (fun h16 => ?_)
    ·
      refine K_seq ?_
      refine K_region ?_
      refine KV (R_assign rfl) rfl ?_
      refine K_nil ?_
      refine Q_then ?_
      refine K_ret ?_
      refine Q_then_ret ?_
      refine results_gen (rs := [.tmp 4]) (vs := [_]) rfl ⟨rfl, trivial⟩ ?_
      rw [hunf, if_pos (.inr (by omega))]
      rfl
    ·
      have hs0 : 0 ≤ s := by omega
      have hs1 : s < rk.length := by omega
      have hs2 : s.toNat < rk.length := by omega
      obtain ⟨rb, ro, rfl, hrk⟩ := hrv.get hs2
      have hgd : rk.getD s.toNat 0 = rk[s.toNat] := by simp [List.getD, hs2]
      refine K_skip ?_
      refine Q_then ?_
      refine K_seq ?_
      refine K_seq ?_
      refine K_regionD (fin := false) (R := [0, 1, 2, 3, 4, 5, 6, 7, 8]) (by kernel_rfl) mixed (.cons_cons _ (List.nil_sublist _)) ?_
      refine D_val rfl rfl rfl (R_fieldAddr 1 fd24_1 rfl) ?_
      refine D_val rfl rfl rfl (R_loadO ty22 0 rfl rfl rfl rfl (fun _ => rfl) rfl) ?_
      refine D_val rfl rfl rfl (R_len sl22 rfl) ?_
      refine D_val rfl rfl rfl (R_move rfl) ?_
      refine D_val rfl rfl rfl (R_fieldAddr 0 fd24_0 rfl) ?_
      refine D_val rfl rfl rfl (R_loadO ty3 0 rfl rfl rfl rfl (fun _ => rfl) rfl) ?_
      refine D_val rfl rfl rfl (R_index sl25 ty3 rfl rfl ⟨hs0, hs1⟩) ?_
      refine D_val rfl rfl rfl (R_loadH ty3 rfl (hrk) rfl (fun _ => rfl) rfl) ?_
      refine D_val rfl rfl rfl (R_cmp rfl rfl rfl) ?_
      refine D_done ?_
      refine Q_then ?_
      refine K_if rfl (fun h25 => ?_) (fun h25 => ?_)
      ·
        refine K_seq ?_
        refine K_region ?_
        refine KV (R_assign rfl) rfl ?_
        refine K_nil ?_
        refine Q_then ?_
        refine K_ret ?_
        refine Q_then_ret ?_
        refine results_gen (rs := [.tmp 4]) (vs := [_]) rfl ⟨rfl, trivial⟩ ?_
        rw [hunf, if_neg (by omega), hgd, if_pos h25]
        rfl
      ·
        refine K_skip ?_
        refine Q_then ?_
        refine K_seq ?_
        refine K_seq ?_
        refine K_region ?_
        refine KV (R_assign rfl) rfl ?_
        refine K_nil ?_
        refine Q_then ?_
        refine K_block ?_
        refine K_loopD (G := Nat × View) [4, 5, 6, 26, 27, 28, 29, 30, 31, 32, 33, 34, 35, 36, 37, 38, 39, 40, 41, 42] (fun g => [(5, .int .i64 (g.1 : Int))]) (fun hl g => hl) (fun g => g.2) (fun g => (g.1 ≤ ts.length) ∧ (VLe H g.2) ∧ (Tr.nodesErrs rk ts = Tr.nodesErrs rk (ts.drop g.1))) (fun g => ts.length - g.1) (0, H) ⟨Nat.zero_le _, VLe.refl _, rfl⟩ ⟨rfl, trivial⟩ (by simp only [args0, Nat.reduceAdd, del, memN, beqN, Nat.reduceBEq, cond_true, cond_false]; rfl) rfl rfl ?_
        rintro ⟨k, V⟩ ⟨hk, hV, hcm⟩
        dsimp only at hk hV hcm
        dsimp only [List.set, List.cons_append, List.nil_append]
        refine K_seq ?_
        refine K_seq ?_
        refine K_region ?_
        refine KV (R_move rfl) rfl ?_
        refine KV (R_fieldAddr 1 fd24_1 rfl) rfl ?_
        refine KV (R_loadO ty22 0 rfl rfl rfl rfl (fun _ => rfl) rfl) rfl ?_
        refine KV (R_len sl22 rfl) rfl ?_
        refine KV (R_cmp rfl rfl rfl) rfl ?_
        refine K_nil ?_
        refine Q_then ?_
        refine K_if rfl (fun h30 => ?_) (fun h30 => ?_)
        ·
          have hlt' : k < ts.length := by omega
          have htk := Tr.sizes_take ts k hlt'
          have hle' := Tr.sizes_take_le ts (k + 1)
          have hcd := Tr.nodesErrs_cons (rk := rk) hlt'
          have ha' := ha (by intro e; subst e; simp at hlt')
          subst ha'
          refine K_skip ?_
          refine Q_then ?_
          refine K_seq ?_
          refine K_block ?_
          refine K_seq ?_
          refine K_region ?_
          refine KV (R_move rfl) rfl ?_
          refine KV (R_fieldAddr 1 fd24_1 rfl) rfl ?_
          refine KV (R_loadO ty22 0 rfl rfl rfl rfl (fun _ => rfl) rfl) rfl ?_
          refine KV (R_move rfl) rfl ?_
          refine KV (R_indexN sl22 ty24 rfl rfl (by omega)) rfl ?_
          refine KV (R_loadH ty24 rfl ((hA k hlt').2.mono hV) (hA k hlt').1 (fun e => by cases e) rfl) rfl ?_
          refine K_call c75 rfl rfl (ih ts[k] V (cs' k) (by omega) (by omega) ((hrec k hlt').mono hV) (hrv.mono hV)) ?_
          rintro _ V1 hle1 rfl
          refine KV (R_assign rfl) rfl ?_
          refine K_nil ?_
          refine Q_then ?_
          refine K_seq ?_
          refine K_region ?_
          refine KV (R_move rfl) rfl ?_
          refine KV (R_cmp rfl rfl rfl) rfl ?_
          refine K_nil ?_
          refine Q_then ?_
          refine K_if rfl (fun h41 => ?_) (fun h41 => ?_)
          ·
            refine K_seq ?_
            refine K_region ?_
            refine KV (R_move rfl) rfl ?_
            refine KV (R_assign rfl) rfl ?_
            refine K_nil ?_
            refine Q_then ?_
            refine K_ret ?_
            refine Q_block_ret ?_
            refine Q_then_ret ?_
            refine Q_then_ret ?_
            refine Q_block_ret ?_
            refine Q_then_ret ?_
            refine results_gen (rs := [.tmp 4]) (vs := [_]) rfl ⟨rfl, trivial⟩ ?_
            rw [hunf, if_neg (by omega), hgd, if_neg h25, hcm, hcd, if_pos h41]
            rfl
          ·
            refine K_skip ?_
            refine Q_block ?_
            refine Q_then ?_
            refine K_region ?_
            refine KV (R_move rfl) rfl ?_
            refine KV (R_add rfl rfl (by omega)) rfl ?_
            refine KV (R_assign rfl) rfl ?_
            refine K_nil ?_
            refine Q_nextD (k + 1, V1) ⟨hlt', hV.trans hle1, by rw [hcm, hcd, if_neg h41]⟩ (by (try dsimp only); omega) ⟨rfl, trivial⟩ rfl rfl rfl
        ·
          have hk' : k = ts.length := by omega
          subst hk'
          refine K_exit ?_
          refine Q_then_exit ?_
          refine Q_then_exit ?_
          refine Q_block_exit ?_
          refine Q_then ?_
          refine K_seq ?_
          refine K_region ?_
          refine KV (R_assign rfl) rfl ?_
          refine K_nil ?_
          refine Q_then ?_
          refine K_ret ?_
          refine results_gen (rs := [.tmp 4]) (vs := [_]) rfl ⟨rfl, trivial⟩ ?_
          rw [hunf, if_neg (by omega), hgd, if_neg h25, hcm, List.drop_length]
          rfl

theorem right_spec (rk : List Int) (rv : Value) (hrkl : rk.length ≤ 1099511627776) : ∀ m t H cs, t.size ≤ m → m ≤ 1099511627776 → RepT H t cs → SI H rv rk → Sat Tryz.prog F115 #[rv, .agg cs.toArray] H (fun r _ => r = .int .i64 (Tr.nodesErr rk t)) := by
  intro m
  induction m with
  | zero => intro t H cs h; have := t.size_pos; omega
  | succ m ih =>
  intro t H cs hm hb hr hrv
  cases hr with | mk s ts a cap b off cs' hs ha hA hrec =>
  obtain ⟨va, vc, rfl⟩ := hrv.shape
  have hsz : (Tr.node s ts).size = 1 + Tr.sizes ts := rfl
  have hln := Tr.length_le_sizes ts
  have hunf : Tr.nodesErr rk (.node s ts) = if s < 0 ∨ (rk.length : Int) ≤ s then 6 else if (ts.length : Int) ≠ rk.getD s.toNat 0 then 3 else Tr.nodesErrs rk ts := by simp only [Tr.nodesErr]
  refine enterO (n := 43) (args := [.slice va rk.length vc, .agg #[.int .i64 s, .slice a ts.length cap]]) Tryz.func124 rfl rfl rfl fun w0 => ?_
  refine K_seq ?_
  refine K_region ?_
  refine KA (A_box rfl) rfl fun b3 => ?_
  refine KV (R_assign rfl) rfl ?_
  refine K_nil ?_
  refine Q_then ?_
  refine K_seq ?_
  refine K_block ?_
  refine K_seq ?_
  refine K_region ?_
  refine KV (R_fieldAddr 0 fd30_0 rfl) rfl ?_
  refine KV (R_loadO ty3 0 rfl rfl rfl rfl (fun _ => rfl) rfl) rfl ?_
  refine KV (R_cmp rfl rfl rfl) rfl ?_
  refine KV (R_move rfl) rfl ?_
  refine K_split ?_ ?_
  ·
    intro h12
    refine K_gno rfl rfl rfl rfl ?_
    refine K_gno rfl rfl rfl rfl ?_
    refine K_gno rfl rfl rfl rfl ?_
    refine K_gno rfl rfl rfl rfl ?_
    refine K_gno rfl rfl rfl rfl ?_
    refine KV (R_pickT rfl rfl) rfl ?_
    refine KV (R_assign rfl) rfl ?_
    refine K_nil ?_
    refine Q_then ?_
    refine K_ifT rfl ?_
    refine K_seq ?_
    refine K_region ?_
    refine KV (R_assign rfl) rfl ?_
    refine K_nil ?_
    refine Q_then ?_
    refine K_ret ?_
    refine Q_block_ret ?_
    refine Q_then_ret ?_
    refine results_gen (rs := [.tmp 4]) (vs := [_]) rfl ⟨rfl, trivial⟩ ?_
    rw [hunf, if_pos (.inl (by omega))]
    rfl
  ·
    intro h12
    refine K_gyes rfl rfl ?_
    refine KV (R_fieldAddr 0 fd30_0 rfl) rfl ?_
    refine K_gyes rfl rfl ?_
    refine KV (R_loadO ty3 0 rfl rfl rfl rfl (fun _ => rfl) rfl) rfl ?_
    refine K_gyes rfl rfl ?_
    refine KV (R_move rfl) rfl ?_
    refine K_gyes rfl rfl ?_
    refine KV (R_len sl47 rfl) rfl ?_
    refine K_gyes rfl rfl ?_
    refine KV (R_cmp rfl rfl rfl) rfl ?_
    refine KV (R_pickF rfl rfl) rfl ?_
    refine KV (R_assign rfl) rfl ?_
    refine K_nil ?_
    refine Q_then ?_
    refine K_if rfl (fun h8 => ?_) (fun h8 => ?_)
    ·
      refine K_seq ?_
      refine K_region ?_
      refine KV (R_assign rfl) rfl ?_
      refine K_nil ?_
      refine Q_then ?_
      refine K_ret ?_
      refine Q_block_ret ?_
      refine Q_then_ret ?_
      refine results_gen (rs := [.tmp 4]) (vs := [_]) rfl ⟨rfl, trivial⟩ ?_
      rw [hunf, if_pos (.inr (by omega))]
      rfl
    ·
      have hs0 : 0 ≤ s := by omega
      have hs1 : s < rk.length := by omega
      have hs2 : s.toNat < rk.length := by omega
      obtain ⟨rb, ro, rfl, hrk⟩ := hrv.get hs2
      have hgd : rk.getD s.toNat 0 = rk[s.toNat] := by simp [List.getD, hs2]
      refine K_seq ?_
      refine K_regionD (fin := false) (R := [0, 1, 2, 3, 4, 5, 6, 7, 8, 9]) (by kernel_rfl) mixed (.cons_cons _ (List.nil_sublist _)) ?_
      refine D_val rfl rfl rfl (R_fieldAddr 1 fd30_1 rfl) ?_
      refine D_val rfl rfl rfl (R_loadO ty28 0 rfl rfl rfl rfl (fun _ => rfl) rfl) ?_
      refine D_val rfl rfl rfl (R_len sl28 rfl) ?_
      refine D_val rfl rfl rfl (R_move rfl) ?_
      refine D_val rfl rfl rfl (R_fieldAddr 0 fd30_0 rfl) ?_
      refine D_val rfl rfl rfl (R_loadO ty3 0 rfl rfl rfl rfl (fun _ => rfl) rfl) ?_
      refine D_val rfl rfl rfl (R_index sl47 ty3 rfl rfl ⟨hs0, hs1⟩) ?_
      refine D_val rfl rfl rfl (R_loadH ty3 rfl (hrk) rfl (fun _ => rfl) rfl) ?_
      refine D_val rfl rfl rfl (R_cmp rfl rfl rfl) ?_
      refine D_val rfl rfl rfl (R_assign rfl) ?_
      refine D_done ?_
      refine Q_then ?_
      refine K_if rfl (fun h19 => ?_) (fun h19 => ?_)
      ·
        refine K_seq ?_
        refine K_region ?_
        refine KV (R_assign rfl) rfl ?_
        refine K_nil ?_
        refine Q_then ?_
        refine K_ret ?_
        refine Q_block_ret ?_
        refine Q_then_ret ?_
        refine results_gen (rs := [.tmp 4]) (vs := [_]) rfl ⟨rfl, trivial⟩ ?_
        rw [hunf, if_neg (by omega), hgd, if_pos h19]
        rfl
      ·
        refine K_skip ?_
        refine Q_block ?_
        refine Q_then ?_
        refine K_seq ?_
        refine K_seq ?_
        refine K_region ?_
        refine KV (R_fieldAddr 1 fd30_1 rfl) rfl ?_
        refine KV (R_loadO ty28 0 rfl rfl rfl rfl (fun _ => rfl) rfl) rfl ?_
        refine KV (R_len sl28 rfl) rfl ?_
        refine KV (R_move rfl) rfl ?_
        refine K_nil ?_
        refine Q_then ?_
        refine K_block ?_
        refine K_loopD (G := Nat × View) [4, 6, 7, 32, 33, 34, 35, 36, 37, 38, 39, 40, 41, 42] (fun g => [(32, .int .i64 (g.1 : Int))]) (fun hl g => hl) (fun g => g.2) (fun g => (g.1 ≤ ts.length) ∧ (VLe H g.2) ∧ (Tr.nodesErrs rk ts = Tr.nodesErrs rk (ts.drop g.1))) (fun g => ts.length - g.1) (0, H) ⟨Nat.zero_le _, VLe.refl _, rfl⟩ ⟨rfl, trivial⟩ (by simp only [args0, Nat.reduceAdd, del, memN, beqN, Nat.reduceBEq, cond_true, cond_false]; rfl) rfl rfl ?_
        rintro ⟨k, V⟩ ⟨hk, hV, hcm⟩
        dsimp only at hk hV hcm
        dsimp only [List.set, List.cons_append, List.nil_append]
        refine K_seq ?_
        refine K_region ?_
        refine KV (R_cmp rfl rfl rfl) rfl ?_
        refine K_nil ?_
        refine Q_then ?_
        refine K_seq ?_
        refine K_if rfl (fun h33 => ?_) (fun h33 => ?_)
        ·
          have hlt' : k < ts.length := by omega
          have htk := Tr.sizes_take ts k hlt'
          have hle' := Tr.sizes_take_le ts (k + 1)
          have hcd := Tr.nodesErrs_cons (rk := rk) hlt'
          have ha' := ha (by intro e; subst e; simp at hlt')
          subst ha'
          obtain ⟨y0, y1, y2, y3, hcs⟩ := (hrec k hlt').shape
          have hreck := (hrec k hlt').mono hV
          rw [hcs] at hreck
          refine K_skip ?_
          refine Q_then ?_
          refine K_seq ?_
          refine K_block ?_
          refine K_seq ?_
          refine K_region ?_
          refine KV (R_indexN sl28 ty30 rfl rfl (by omega)) rfl ?_
          refine KV (R_loadH ty30 rfl (hcs ▸ (hA k hlt').2.mono hV) rfl (fun e => by cases e) rfl) rfl ?_
          refine KA (A_alloc z30) rfl fun b6 => ?_
          refine K_store ty30 0 rfl rfl rfl rfl rfl rfl ?_
          refine K_nil ?_
          refine Q_then ?_
          refine K_seq ?_
          refine K_region ?_
          refine KV (R_move rfl) rfl ?_
          refine KV (R_loadO ty30 0 rfl rfl rfl rfl (fun e => by cases e) rfl) rfl ?_
          refine K_call c115 rfl rfl (ih ts[k] V _ (by omega) (by omega) hreck (hrv.mono hV)) ?_
          rintro _ V1 hle1 rfl
          refine KV (R_assign rfl) rfl ?_
          refine K_nil ?_
          refine Q_then ?_
          refine K_seq ?_
          refine K_region ?_
          refine KV (R_move rfl) rfl ?_
          refine KV (R_cmp rfl rfl rfl) rfl ?_
          refine K_nil ?_
          refine Q_then ?_
          refine K_if rfl (fun h40 => ?_) (fun h40 => ?_)
          ·
            refine K_seq ?_
            refine K_region ?_
            refine KV (R_move rfl) rfl ?_
            refine KV (R_assign rfl) rfl ?_
            refine K_nil ?_
            refine Q_then ?_
            refine K_ret ?_
            refine Q_block_ret ?_
            refine Q_then_ret ?_
            refine Q_then_ret ?_
            refine Q_block_ret ?_
            refine Q_then_ret ?_
            refine results_gen (rs := [.tmp 4]) (vs := [_]) rfl ⟨rfl, trivial⟩ ?_
            rw [hunf, if_neg (by omega), hgd, if_neg h19, hcm, hcd, if_pos h40]
            rfl
          ·
            refine K_skip ?_
            refine Q_block ?_
            refine Q_then ?_
            refine K_region ?_
            refine KV (R_add rfl rfl (by omega)) rfl ?_
            refine KV (R_move rfl) rfl ?_
            refine K_nil ?_
            refine KQ_sel [1] rfl ?_
            refine Q_nextD (k + 1, V1) ⟨hlt', hV.trans hle1, by rw [hcm, hcd, if_neg h40]⟩ (by (try dsimp only); omega) ⟨rfl, trivial⟩ rfl rfl rfl
        ·
          have hk' : k = ts.length := by omega
          subst hk'
          refine K_exit ?_
          refine Q_then_exit ?_
          refine Q_then_exit ?_
          refine Q_block_exit ?_
          refine Q_then ?_
          refine K_seq ?_
          refine K_region ?_
          refine KV (R_assign rfl) rfl ?_
          refine K_nil ?_
          refine Q_then ?_
          refine K_ret ?_
          refine results_gen (rs := [.tmp 4]) (vs := [_]) rfl ⟨rfl, trivial⟩ ?_
          rw [hunf, if_neg (by omega), hgd, if_neg h19, hcm, List.drop_length]
          rfl

theorem psize_spec : ∀ m t H cs, t.size ≤ m → m ≤ 1099511627776 → RepT H t cs → Sat Tryz.prog F118 #[.agg cs.toArray] H (fun v _ => v = .int .i64 (t.size : Int)) := by
  intro m
  induction m with
  | zero => intro t H cs h; have := t.size_pos; omega
  | succ m ih =>
  intro t H cs hm hb hr
  cases hr with | mk s ts a cap b off cs' hs ha hA hrec =>
  have hsz : (Tr.node s ts).size = 1 + Tr.sizes ts := rfl
  have hln := Tr.length_le_sizes ts
  have hdl := Tr.deeps_le ts
  refine enterO (n := 19) (args := [.agg #[.int .i64 s, .slice a ts.length cap]]) Tryz.func68 rfl rfl rfl fun w0 => ?_
  refine K_seq ?_
  refine K_region ?_
  refine KA (A_box rfl) rfl fun b1 => ?_
  refine KV (R_assign rfl) rfl ?_
  refine K_nil ?_
  refine Q_then ?_
  refine K_seq ?_
  refine K_region ?_
  refine KV (R_assign rfl) rfl ?_
  refine K_nil ?_
  refine Q_then ?_
  refine K_seq ?_
  refine K_seq ?_
  refine K_region ?_
  refine KV (R_fieldAddr 1 fd30_1 rfl) rfl ?_
  refine KV (R_loadO ty28 0 rfl rfl rfl rfl (fun _ => rfl) rfl) rfl ?_
  refine KV (R_len sl28 rfl) rfl ?_
  refine KV (R_move rfl) rfl ?_
  refine K_nil ?_
  refine Q_then ?_
  refine K_block ?_
  refine K_loopD (G := Nat × View) [3, 5, 9, 10, 11, 12, 13, 14, 15, 16, 17] (fun g => [(9, .int .i64 (g.1 : Int)), (3, .int .i64 (1 + (Tr.sizes (ts.take g.1) : Int)))]) (fun hl g => hl) (fun g => g.2) (fun g => (g.1 ≤ ts.length) ∧ (VLe H g.2)) (fun g => ts.length - g.1) (0, H) ⟨Nat.zero_le _, VLe.refl _⟩ ⟨rfl, rfl, trivial⟩ (by simp only [args0, Nat.reduceAdd, del, memN, beqN, Nat.reduceBEq, cond_true, cond_false]; rfl) rfl rfl ?_
  rintro ⟨k, V⟩ ⟨hk, hV⟩
  dsimp only at hk hV
  dsimp only [List.set, List.cons_append, List.nil_append]
  refine K_seq ?_
  refine K_region ?_
  refine KV (R_cmp rfl rfl rfl) rfl ?_
  refine K_nil ?_
  refine Q_then ?_
  refine K_seq ?_
  refine K_if rfl (fun h10 => ?_) (fun h10 => ?_)
  ·
    have hlt' : k < ts.length := by omega
    have htk := Tr.sizes_take ts k hlt'
    have hle' := Tr.sizes_take_le ts (k + 1)
    have hdk := Tr.deeps_take ts k hlt'
    have hdk2 := Tr.deeps_append (ts.take (k + 1)) (ts.drop (k + 1))
    rw [List.take_append_drop] at hdk2
    have ha' := ha (by intro e; subst e; simp at hlt')
    subst ha'
    obtain ⟨y0, y1, y2, y3, hcs⟩ := (hrec k hlt').shape
    have hreck := (hrec k hlt').mono hV
    rw [hcs] at hreck
    refine K_skip ?_
    refine Q_then ?_
    refine K_seq ?_
    refine K_block ?_
    refine K_seq ?_
    refine K_region ?_
    refine KV (R_indexN sl28 ty30 rfl rfl (by omega)) rfl ?_
    refine KV (R_loadH ty30 rfl (hcs ▸ (hA k hlt').2.mono hV) rfl (fun e => by cases e) rfl) rfl ?_
    refine KA (A_alloc z30) rfl fun b5 => ?_
    refine K_store ty30 0 rfl rfl rfl rfl rfl rfl ?_
    refine K_nil ?_
    refine Q_then ?_
    refine K_region ?_
    refine KV (R_move rfl) rfl ?_
    refine KV (R_loadO ty30 0 rfl rfl rfl rfl (fun e => by cases e) rfl) rfl ?_
    refine K_call c118 rfl rfl (ih ts[k] V _ (by omega) (by omega) hreck) ?_
    rintro _ V1 hle1 rfl
    refine KV (R_add rfl rfl (by omega)) rfl ?_
    refine KV (R_assign rfl) rfl ?_
    refine K_nil ?_
    refine Q_block ?_
    refine Q_then ?_
    refine K_region ?_
    refine KV (R_add rfl rfl (by omega)) rfl ?_
    refine KV (R_move rfl) rfl ?_
    refine K_nil ?_
    refine KQ_sel [1] rfl ?_
    refine Q_nextD (k + 1, V1) ⟨hlt', hV.trans hle1⟩ (by (try dsimp only); omega) ⟨rfl, congrArg (fun z => some (Value.int .i64 z)) (by dsimp only; omega), trivial⟩ rfl rfl rfl
  ·
    have hk' : k = ts.length := by omega
    subst hk'
    rw [List.take_length]
    refine K_exit ?_
    refine Q_then_exit ?_
    refine Q_then_exit ?_
    refine Q_block_exit ?_
    refine Q_then ?_
    refine K_seq ?_
    refine K_region ?_
    refine KV (R_move rfl) rfl ?_
    refine KV (R_assign rfl) rfl ?_
    refine K_nil ?_
    refine Q_then ?_
    refine K_ret ?_
    refine results_gen (rs := [.tmp 2]) (vs := [_]) rfl ⟨rfl, trivial⟩ ?_
    simp [tupV, Tr.size]

theorem pdepth_spec : ∀ m t H cs, t.size ≤ m → m ≤ 1099511627776 → RepT H t cs → Sat Tryz.prog F119 #[.agg cs.toArray] H (fun v _ => v = .int .i64 (t.deep : Int)) := by
  intro m
  induction m with
  | zero => intro t H cs h; have := t.size_pos; omega
  | succ m ih =>
  intro t H cs hm hb hr
  cases hr with | mk s ts a cap b off cs' hs ha hA hrec =>
  have hsz : (Tr.node s ts).size = 1 + Tr.sizes ts := rfl
  have hln := Tr.length_le_sizes ts
  have hdl := Tr.deeps_le ts
  refine enterO (n := 20) (args := [.agg #[.int .i64 s, .slice a ts.length cap]]) Tryz.func122 rfl rfl rfl fun w0 => ?_
  refine K_seq ?_
  refine K_region ?_
  refine KA (A_box rfl) rfl fun b1 => ?_
  refine KV (R_assign rfl) rfl ?_
  refine K_nil ?_
  refine Q_then ?_
  refine K_seq ?_
  refine K_region ?_
  refine KV (R_assign rfl) rfl ?_
  refine K_nil ?_
  refine Q_then ?_
  refine K_seq ?_
  refine K_seq ?_
  refine K_region ?_
  refine KV (R_fieldAddr 1 fd30_1 rfl) rfl ?_
  refine KV (R_loadO ty28 0 rfl rfl rfl rfl (fun _ => rfl) rfl) rfl ?_
  refine KV (R_len sl28 rfl) rfl ?_
  refine KV (R_move rfl) rfl ?_
  refine K_nil ?_
  refine Q_then ?_
  refine K_block ?_
  refine K_loopD (G := Nat × View) [3, 5, 9, 10, 11, 12, 13, 14, 15, 16, 17] (fun g => [(9, .int .i64 (g.1 : Int)), (3, .int .i64 (Tr.deeps (ts.take g.1) : Int))]) (fun hl g => hl) (fun g => g.2) (fun g => (g.1 ≤ ts.length) ∧ (VLe H g.2)) (fun g => ts.length - g.1) (0, H) ⟨Nat.zero_le _, VLe.refl _⟩ ⟨rfl, rfl, trivial⟩ (by simp only [args0, Nat.reduceAdd, del, memN, beqN, Nat.reduceBEq, cond_true, cond_false]; rfl) rfl rfl ?_
  rintro ⟨k, V⟩ ⟨hk, hV⟩
  dsimp only at hk hV
  dsimp only [List.set, List.cons_append, List.nil_append]
  refine K_seq ?_
  refine K_region ?_
  refine KV (R_cmp rfl rfl rfl) rfl ?_
  refine K_nil ?_
  refine Q_then ?_
  refine K_seq ?_
  refine K_if rfl (fun h10 => ?_) (fun h10 => ?_)
  ·
    have hlt' : k < ts.length := by omega
    have htk := Tr.sizes_take ts k hlt'
    have hle' := Tr.sizes_take_le ts (k + 1)
    have hdk := Tr.deeps_take ts k hlt'
    have hdk2 := Tr.deeps_append (ts.take (k + 1)) (ts.drop (k + 1))
    rw [List.take_append_drop] at hdk2
    have ha' := ha (by intro e; subst e; simp at hlt')
    subst ha'
    obtain ⟨y0, y1, y2, y3, hcs⟩ := (hrec k hlt').shape
    have hreck := (hrec k hlt').mono hV
    rw [hcs] at hreck
    refine K_skip ?_
    refine Q_then ?_
    refine K_seq ?_
    refine K_block ?_
    refine K_seq ?_
    refine K_region ?_
    refine KV (R_indexN sl28 ty30 rfl rfl (by omega)) rfl ?_
    refine KV (R_loadH ty30 rfl (hcs ▸ (hA k hlt').2.mono hV) rfl (fun e => by cases e) rfl) rfl ?_
    refine KA (A_alloc z30) rfl fun b5 => ?_
    refine K_store ty30 0 rfl rfl rfl rfl rfl rfl ?_
    refine K_nil ?_
    refine Q_then ?_
    refine K_region ?_
    refine KV (R_move rfl) rfl ?_
    refine KV (R_loadO ty30 0 rfl rfl rfl rfl (fun e => by cases e) rfl) rfl ?_
    refine K_call c119 rfl rfl (ih ts[k] V _ (by omega) (by omega) hreck) ?_
    rintro _ V1 hle1 rfl
    refine KV (R_max2 rfl rfl) rfl ?_
    refine KV (R_assign rfl) rfl ?_
    refine K_nil ?_
    refine Q_block ?_
    refine Q_then ?_
    refine K_region ?_
    refine KV (R_add rfl rfl (by omega)) rfl ?_
    refine KV (R_move rfl) rfl ?_
    refine K_nil ?_
    refine KQ_sel [1] rfl ?_
    refine Q_nextD (k + 1, V1) ⟨hlt', hV.trans hle1⟩ (by (try dsimp only); omega) ⟨rfl, congrArg (fun z => some (Value.int .i64 z)) (by dsimp only; split <;> omega), trivial⟩ rfl rfl rfl
  ·
    have hk' : k = ts.length := by omega
    subst hk'
    rw [List.take_length]
    refine K_exit ?_
    refine Q_then_exit ?_
    refine Q_then_exit ?_
    refine Q_block_exit ?_
    refine Q_then ?_
    refine K_seq ?_
    refine K_region ?_
    refine KV (R_move rfl) rfl ?_
    refine KV (R_add rfl rfl (by omega)) rfl ?_
    refine KV (R_assign rfl) rfl ?_
    refine K_nil ?_
    refine Q_then ?_
    refine K_ret ?_
    refine results_gen (rs := [.tmp 2]) (vs := [_]) rfl ⟨rfl, trivial⟩ ?_
    simp [tupV, Tr.deep]

theorem psmall_spec (t : Tr) (H : View) (cs : List Value) (hb : t.size ≤ 1073741824) (hr : RepT H t cs) : Sat Tryz.prog F114 #[.agg cs.toArray] H (fun r _ => r = .int .i64 (if (4096 : Int) < t.size then 2 else if (256 : Int) < t.deep then 16 else 0)) := by
  obtain ⟨x0, x1, x2, x3, rfl⟩ := hr.shape
  refine enterO (n := 11) (args := [.agg #[.int .i64 x0, .slice x1 x2 x3]]) Tryz.func123 rfl rfl rfl fun w0 => ?_
  refine K_seq ?_
  refine K_region ?_
  refine KA (A_box rfl) rfl fun b1 => ?_
  refine KV (R_assign rfl) rfl ?_
  refine K_nil ?_
  refine Q_then ?_
  refine K_seq ?_
  refine K_block ?_
  refine K_seq ?_
  refine K_region ?_
  refine KV (R_loadO ty30 0 rfl rfl rfl rfl (fun e => by cases e) rfl) rfl ?_
  refine K_call c118 rfl rfl (psize_spec t.size t H _ (Nat.le_refl _) (by omega) hr) ?_
  rintro _ V1 hv1 rfl
  refine KV (R_cmp rfl rfl rfl) rfl ?_
  refine KV (R_assign rfl) rfl ?_
  refine K_nil ?_
  refine Q_then ?_
  refine K_if rfl (fun h3 => ?_) (fun h3 => ?_)
  ·
    refine K_seq ?_
    refine K_region ?_
    refine KV (R_assign rfl) rfl ?_
    refine K_nil ?_
    refine Q_then ?_
    refine K_ret ?_
    refine Q_block_ret ?_
    refine Q_then_ret ?_
    refine results_gen (rs := [.tmp 2]) (vs := [_]) rfl ⟨rfl, trivial⟩ ?_
    rw [if_pos h3]
    rfl
  ·
    refine K_seq ?_
    refine K_region ?_
    refine KV (R_loadO ty30 0 rfl rfl rfl rfl (fun e => by cases e) rfl) rfl ?_
    refine K_call c119 rfl rfl (pdepth_spec t.size t V1 _ (Nat.le_refl _) (by omega) (hr.mono hv1)) ?_
    rintro _ V2 hv2 rfl
    refine KV (R_cmp rfl rfl rfl) rfl ?_
    refine KV (R_assign rfl) rfl ?_
    refine K_nil ?_
    refine Q_then ?_
    refine K_if rfl (fun h7 => ?_) (fun h7 => ?_)
    ·
      refine K_seq ?_
      refine K_region ?_
      refine KV (R_assign rfl) rfl ?_
      refine K_nil ?_
      refine Q_then ?_
      refine K_ret ?_
      refine Q_block_ret ?_
      refine Q_then_ret ?_
      refine results_gen (rs := [.tmp 2]) (vs := [_]) rfl ⟨rfl, trivial⟩ ?_
      rw [if_neg h3, if_pos h7]
      rfl
    ·
      refine K_skip ?_
      refine Q_block ?_
      refine Q_then ?_
      refine K_seq ?_
      refine K_region ?_
      refine KV (R_assign rfl) rfl ?_
      refine K_nil ?_
      refine Q_then ?_
      refine K_ret ?_
      refine results_gen (rs := [.tmp 2]) (vs := [_]) rfl ⟨rfl, trivial⟩ ?_
      rw [if_neg h3, if_neg h7]
      rfl

theorem pvalid_spec (rk : List Int) (rv : Value) (t : Tr) (H : View) (cs : List Value) (hrkl : rk.length ≤ 1048576) (hb : t.size ≤ 1073741824) (hr : RepT H t cs) (hrv : SI H rv rk) : Sat Tryz.prog F98 #[rv, .agg cs.toArray] H (fun r _ => r = .int .i64 (validErr rk t)) := by
  obtain ⟨x0, x1, x2, x3, rfl⟩ := hr.shape
  obtain ⟨va, vc, rfl⟩ := hrv.shape
  refine enterO (n := 20) (args := [.slice va rk.length vc, .agg #[.int .i64 x0, .slice x1 x2 x3]]) Tryz.func94 rfl rfl rfl fun w0 => ?_
  refine K_seq ?_
  refine K_region ?_
  refine KA (A_box rfl) rfl fun b3 => ?_
  refine KV (R_assign rfl) rfl ?_
  refine K_nil ?_
  refine Q_then ?_
  refine K_seq ?_
  refine K_seq ?_
  refine K_region ?_
  refine KV (R_move rfl) rfl ?_
  refine K_call c72 rfl rfl (acheck_spec rk _ H hrv (by omega)) ?_
  rintro _ V1 hv1 rfl
  refine KV (R_assign rfl) rfl ?_
  refine K_nil ?_
  refine Q_then ?_
  refine K_seq ?_
  refine K_region ?_
  refine KV (R_move rfl) rfl ?_
  refine KV (R_cmp rfl rfl rfl) rfl ?_
  refine K_nil ?_
  refine Q_then ?_
  refine K_if rfl (fun h10 => ?_) (fun h10 => ?_)
  ·
    refine K_seq ?_
    refine K_region ?_
    refine KV (R_move rfl) rfl ?_
    refine KV (R_assign rfl) rfl ?_
    refine K_nil ?_
    refine Q_then ?_
    refine K_ret ?_
    refine Q_then_ret ?_
    refine results_gen (rs := [.tmp 4]) (vs := [_]) rfl ⟨rfl, trivial⟩ ?_
    simp only [tupV, validErr]
    rw [if_pos h10]
  ·
    refine K_skip ?_
    refine Q_then ?_
    refine K_seq ?_
    refine K_seq ?_
    refine K_region ?_
    refine KV (R_loadO ty30 0 rfl rfl rfl rfl (fun e => by cases e) rfl) rfl ?_
    refine K_call c114 rfl rfl (psmall_spec t V1 _ hb (hr.mono hv1)) ?_
    rintro _ V2 hv2 rfl
    refine KV (R_assign rfl) rfl ?_
    refine K_nil ?_
    refine Q_then ?_
    refine K_seq ?_
    refine K_region ?_
    refine KV (R_move rfl) rfl ?_
    refine KV (R_cmp rfl rfl rfl) rfl ?_
    refine K_nil ?_
    refine Q_then ?_
    refine K_if rfl (fun h15 => ?_) (fun h15 => ?_)
    ·
      refine K_seq ?_
      refine K_region ?_
      refine KV (R_move rfl) rfl ?_
      refine KV (R_assign rfl) rfl ?_
      refine K_nil ?_
      refine Q_then ?_
      refine K_ret ?_
      refine Q_then_ret ?_
      refine results_gen (rs := [.tmp 4]) (vs := [_]) rfl ⟨rfl, trivial⟩ ?_
      simp only [tupV, validErr]
      rw [if_neg h10]
      refine congrArg (Value.int .i64) ?_
      split
      · rfl
      · split
        · rfl
        · rename_i g1 g2; rw [if_neg g1, if_neg g2] at h15; exact absurd rfl h15
    ·
      refine K_skip ?_
      refine Q_then ?_
      refine K_seq ?_
      refine K_region ?_
      refine KV (R_move rfl) rfl ?_
      refine KV (R_loadO ty30 0 rfl rfl rfl rfl (fun e => by cases e) rfl) rfl ?_
      refine K_call c115 rfl rfl (right_spec rk _ (by omega) t.size t V2 _ (Nat.le_refl _) (by omega) (hr.mono (hv1.trans hv2)) (hrv.mono (hv1.trans hv2))) ?_
      rintro _ V3 hv3 rfl
      refine KV (R_assign rfl) rfl ?_
      refine K_nil ?_
      refine Q_then ?_
      refine K_ret ?_
      refine results_gen (rs := [.tmp 4]) (vs := [_]) rfl ⟨rfl, trivial⟩ ?_
      simp only [tupV, validErr]
      rw [if_neg h10]
      refine congrArg (Value.int .i64) ?_
      split
      · rename_i g1; rw [if_pos g1] at h15; exact absurd h15 (by decide)
      · split
        · rename_i g1 g2; rw [if_neg g1, if_pos g2] at h15; exact absurd h15 (by decide)
        · rfl

theorem rvalid_spec (rk : List Int) (rv : Value) (t : Tr) (H : View) (cs : List Value) (hrkl : rk.length ≤ 1048576) (hb : t.size ≤ 1073741824) (hr : RepT H t cs) (hrv : SI H rv rk) : Sat Tryz.prog F39 #[rv, .agg cs.toArray] H (fun r _ => r = .int .i64 (validErr rk t)) := by
  obtain ⟨x0, x1, x2, x3, rfl⟩ := hr.shape
  obtain ⟨va, vc, rfl⟩ := hrv.shape
  refine enterO (n := 20) (args := [.slice va rk.length vc, .agg #[.int .i64 x0, .slice x1 x2 x3]]) Tryz.func33 rfl rfl rfl fun w0 => ?_
  refine K_seq ?_
  refine K_region ?_
  refine KA (A_box rfl) rfl fun b3 => ?_
  refine KV (R_assign rfl) rfl ?_
  refine K_nil ?_
  refine Q_then ?_
  refine K_seq ?_
  refine K_seq ?_
  refine K_region ?_
  refine KV (R_move rfl) rfl ?_
  refine K_call c36 rfl rfl (rcheck31_spec rk _ H hrv (by omega)) ?_
  rintro _ V1 hv1 rfl
  refine KV (R_assign rfl) rfl ?_
  refine K_nil ?_
  refine Q_then ?_
  refine K_seq ?_
  refine K_region ?_
  refine KV (R_move rfl) rfl ?_
  refine KV (R_cmp rfl rfl rfl) rfl ?_
  refine K_nil ?_
  refine Q_then ?_
  refine K_if rfl (fun h9 => ?_) (fun h9 => ?_)
  ·
    refine K_seq ?_
    refine K_region ?_
    refine KV (R_move rfl) rfl ?_
    refine KV (R_assign rfl) rfl ?_
    refine K_nil ?_
    refine Q_then ?_
    refine K_ret ?_
    refine Q_then_ret ?_
    refine results_gen (rs := [.tmp 4]) (vs := [_]) rfl ⟨rfl, trivial⟩ ?_
    simp only [tupV, validErr]
    rw [if_pos h9]
  ·
    refine K_skip ?_
    refine Q_then ?_
    refine K_seq ?_
    refine K_seq ?_
    refine K_region ?_
    refine KV (R_loadO ty24 0 rfl rfl rfl rfl (fun e => by cases e) rfl) rfl ?_
    refine K_call c8 rfl rfl (size_spec t.size t V1 _ (Nat.le_refl _) (by omega) (hr.mono hv1)) ?_
    rintro _ V2 hv2 rfl
    refine KV (R_cmp rfl rfl rfl) rfl ?_
    refine K_nil ?_
    refine Q_then ?_
    refine K_if rfl (fun h13 => ?_) (fun h13 => ?_)
    ·
      refine K_seq ?_
      refine K_region ?_
      refine KV (R_assign rfl) rfl ?_
      refine K_nil ?_
      refine Q_then ?_
      refine K_ret ?_
      refine Q_then_ret ?_
      refine results_gen (rs := [.tmp 4]) (vs := [_]) rfl ⟨rfl, trivial⟩ ?_
      simp only [tupV, validErr]
      rw [if_neg h9, if_pos h13]
    ·
      refine K_skip ?_
      refine Q_then ?_
      refine K_seq ?_
      refine K_seq ?_
      refine K_region ?_
      refine KV (R_loadO ty24 0 rfl rfl rfl rfl (fun e => by cases e) rfl) rfl ?_
      refine K_call c9 rfl rfl (deep_spec t.size t V2 _ (Nat.le_refl _) (by omega) (hr.mono (hv1.trans hv2))) ?_
      rintro _ V3 hv3 rfl
      refine KV (R_cmp rfl rfl rfl) rfl ?_
      refine K_nil ?_
      refine Q_then ?_
      refine K_if rfl (fun h16 => ?_) (fun h16 => ?_)
      ·
        refine K_seq ?_
        refine K_region ?_
        refine KV (R_assign rfl) rfl ?_
        refine K_nil ?_
        refine Q_then ?_
        refine K_ret ?_
        refine Q_then_ret ?_
        refine results_gen (rs := [.tmp 4]) (vs := [_]) rfl ⟨rfl, trivial⟩ ?_
        simp only [tupV, validErr]
        rw [if_neg h9, if_neg h13, if_pos h16]
      ·
        refine K_skip ?_
        refine Q_then ?_
        refine K_seq ?_
        refine K_region ?_
        refine KV (R_move rfl) rfl ?_
        refine KV (R_loadO ty24 0 rfl rfl rfl rfl (fun e => by cases e) rfl) rfl ?_
        refine K_call c75 rfl rfl (rnodes_spec rk _ (by omega) t.size t V3 _ (Nat.le_refl _) (by omega) (hr.mono (hv1.trans (hv2.trans hv3))) (hrv.mono (hv1.trans (hv2.trans hv3)))) ?_
        rintro _ V4 hv4 rfl
        refine KV (R_assign rfl) rfl ?_
        refine K_nil ?_
        refine Q_then ?_
        refine K_ret ?_
        refine results_gen (rs := [.tmp 4]) (vs := [_]) rfl ⟨rfl, trivial⟩ ?_
        simp only [tupV, validErr]
        rw [if_neg h9, if_neg h13, if_neg h16]
end Go.Proofs.X

namespace Go.Proofs.X
open Go Pal Go.Proofs
attribute [local irreducible] Pal.KO Pal.KC Pal.KQ Pal.KD
theorem ty4 : Ty Tryz.prog T4 false 1 := .of (by kernel_rfl)
theorem z4 : zeroOk Tryz.prog T4 (.bool false) := .of (by kernel_rfl)
theorem c63 : callable Tryz.prog F63 = true := by kernel_rfl
theorem c91 : callable Tryz.prog F91 = true := by kernel_rfl
theorem c98 : callable Tryz.prog F98 = true := by kernel_rfl
theorem ap52 : App Tryz.prog T52 T4 1 1 := .of sl52 (by kernel_rfl)
theorem at_spec (d : Dt) (hok : DtOk d) (s : Int) (xs : List Int) (v1 v2 v3 w : Value) (H : View) (hd : RepDt H d v1 v2 v3) (hw : SI H w xs) (hs : 0 ≤ s ∧ s < d.ranks.length) (hl : (xs.length : Int) = d.ranks.getD s.toNat 0) (hx : ∀ x ∈ xs, 0 ≤ x ∧ x < (d.acc.length : Int)) :
    Sat Tryz.prog F91 #[.agg #[v1, v2, v3], .int .i64 s, w] H (fun r _ => r = .int .i64 (atM d s xs)) := by
  obtain ⟨wa, wcp, rfl⟩ := hw.shape
  obtain ⟨g1, g2, g3, g4⟩ := hok.at_ok hs hl hx
  have hn := hok.n
  have hrkb := (ranksErr_ok hok.rk).2 s.toNat (by omega)
  have hxl : xs.length ≤ 2 := by
    have : d.ranks.getD s.toNat 0 = d.ranks[s.toNat] := by simp [List.getD, show s.toNat < d.ranks.length by omega]
    omega
  obtain ⟨ua1, uc1x, rfl⟩ := hd.r.shape
  obtain ⟨ua2, uc2x, rfl⟩ := hd.a.shape
  obtain ⟨ua3, uc3x, rfl⟩ := hd.t.shape
  refine enterO (n := 32) (args := [.agg #[.slice ua1 d.ranks.length uc1x, .slice ua2 d.acc.length uc2x, .slice ua3 d.to.length uc3x], .int .i64 s, .slice wa xs.length wcp]) Tryz.func56 rfl rfl rfl fun w0 => ?_
  refine K_seq ?_
  refine K_region ?_
  refine KA (A_box rfl) rfl fun b3 => ?_
  refine KV (R_assign rfl) rfl ?_
  refine K_nil ?_
  refine Q_then ?_
  refine K_seq ?_
  refine K_region ?_
  refine KV (R_assign rfl) rfl ?_
  refine K_nil ?_
  refine Q_then ?_
  refine K_seq ?_
  refine K_seq ?_
  refine K_region ?_
  refine KV (R_move rfl) rfl ?_
  refine KV (R_len sl25 rfl) rfl ?_
  refine KV (R_move rfl) rfl ?_
  refine K_nil ?_
  refine Q_then ?_
  refine K_block ?_
  refine K_loopD (G := Nat) [7, 9, 12, 13, 14, 15, 16, 17, 18, 19, 20, 21, 22, 23] (fun g => [(12, .int .i64 (g : Int)), (7, .int .i64 (placeM d.acc.length (xs.take g)))]) (fun hl g => hl) (fun g => H) (fun g => (g ≤ xs.length)) (fun g => xs.length - g) 0 (Nat.zero_le _) ⟨rfl, rfl, trivial⟩ (by simp only [args0, Nat.reduceAdd, del, memN, beqN, Nat.reduceBEq, cond_true, cond_false]; rfl) rfl rfl ?_
  rintro k hk
  try dsimp only at hk
  dsimp only [List.set, List.cons_append, List.nil_append]
  refine K_seq ?_
  refine K_region ?_
  refine KV (R_cmp rfl rfl rfl) rfl ?_
  refine K_nil ?_
  refine Q_then ?_
  refine K_seq ?_
  refine K_if rfl (fun h13 => ?_) (fun h13 => ?_)
  ·
    have hk' : k < xs.length := by omega
    obtain ⟨tb, to_, hte, hta⟩ := hw.get hk'
    cases hte
    have hpl := placeM_lt hx k hk
    have hpk : d.acc.length ^ k ≤ 262144 := pow_le2 hn.2 (by omega)
    have hxk := hx _ (List.getElem_mem hk')
    have hm0 : 0 ≤ placeM d.acc.length (xs.take k) * (d.acc.length : Int) := Int.mul_nonneg hpl.1 (by omega)
    have hm1 : placeM d.acc.length (xs.take k) * (d.acc.length : Int) ≤ 262144 * (d.acc.length : Int) := Int.mul_le_mul_of_nonneg_right (by omega) (by omega)
    refine K_skip ?_
    refine Q_then ?_
    refine K_seq ?_
    refine K_block ?_
    refine K_seq ?_
    refine K_region ?_
    refine KV (R_indexN sl25 ty3 rfl rfl (by omega)) rfl ?_
    refine KV (R_loadH ty3 rfl (hta) rfl (fun _ => rfl) rfl) rfl ?_
    refine KV (R_assign rfl) rfl ?_
    refine K_nil ?_
    refine Q_then ?_
    refine K_region ?_
    refine KV (R_move rfl) rfl ?_
    refine KV (R_fieldAddr 1 fd54_1 rfl) rfl ?_
    refine KV (R_loadO ty52 0 rfl rfl rfl rfl (fun _ => rfl) rfl) rfl ?_
    refine KV (R_len sl52 rfl) rfl ?_
    refine KV (R_mul rfl rfl (by omega)) rfl ?_
    refine KV (R_move rfl) rfl ?_
    refine KV (R_add rfl rfl (by omega)) rfl ?_
    refine KV (R_assign rfl) rfl ?_
    refine K_nil ?_
    refine Q_block ?_
    refine Q_then ?_
    refine K_region ?_
    refine KV (R_add rfl rfl (by omega)) rfl ?_
    refine KV (R_move rfl) rfl ?_
    refine K_nil ?_
    refine Q_nextD (k + 1) hk' (by (try dsimp only); omega) ⟨rfl, congrArg (fun z => some (Value.int .i64 z)) (placeM_take hk').symm, trivial⟩ rfl rfl rfl
  ·
    have hk' : k = xs.length := by omega
    subst hk'
    rw [List.take_length]
    obtain ⟨db, do_, ea, ecp, hde, htx, hes⟩ := hd.t.get g1
    cases hde
    have hgs : d.to.getD s.toNat [] = d.to[s.toNat] := by simp [List.getD, g1]
    rw [hgs] at g2
    obtain ⟨eb, eo, hee, hty⟩ := hes.get g2.2
    cases hee
    have hg2 : atM d s xs = d.to[s.toNat][(placeM d.acc.length xs).toNat] := by
      unfold atM
      rw [hgs]
      simp [List.getD, g2.2]
    refine K_exit ?_
    refine Q_then_exit ?_
    refine Q_then_exit ?_
    refine Q_block_exit ?_
    refine Q_then ?_
    refine K_seq ?_
    refine K_region ?_
    refine KV (R_fieldAddr 2 fd54_2 rfl) rfl ?_
    refine KV (R_loadO ty44 0 rfl rfl rfl rfl (fun _ => rfl) rfl) rfl ?_
    refine KV (R_move rfl) rfl ?_
    refine KV (R_index sl44 ty25 rfl rfl ⟨by omega, by omega⟩) rfl ?_
    refine KV (R_loadH ty25 rfl (htx) rfl (fun _ => rfl) rfl) rfl ?_
    refine KV (R_move rfl) rfl ?_
    refine KV (R_index sl25 ty3 rfl rfl ⟨g2.1, by omega⟩) rfl ?_
    refine KV (R_loadH ty3 rfl (hty) rfl (fun _ => rfl) rfl) rfl ?_
    refine KV (R_assign rfl) rfl ?_
    refine K_nil ?_
    refine Q_then ?_
    refine K_ret ?_
    refine results_gen (rs := [.tmp 6]) (vs := [_]) rfl ⟨rfl, trivial⟩ ?_
    rw [hg2]
    rfl

end Go.Proofs.X

namespace Go.Proofs.X
open Go Pal Go.Proofs
attribute [local irreducible] Pal.KO Pal.KC Pal.KQ Pal.KD

theorem key_spec2 (r : Rl) (v : Value) (H : View) (hv : SI H v r.args) (hs : i64ok r.sym) (ht : i64ok r.to) (hl : r.args.length ≤ 1099511627776) : Sat Tryz.prog F69 #[.agg #[.int .i64 r.sym, v, .int .i64 r.to]] H (fun w H' => SI H' w (keyL r)) := by
  obtain ⟨a, cp, rfl⟩ := hv.shape
  refine enterO (n := 13) (args := [.agg #[.int .i64 r.sym, .slice a r.args.length cp, .int .i64 r.to]]) Tryz.func137 rfl rfl rfl fun w0 => ?_
  refine K_seq ?_
  refine K_region ?_
  refine KA (A_box rfl) rfl fun b1 => ?_
  refine KV (R_assign rfl) rfl ?_
  refine K_nil ?_
  refine Q_then ?_
  refine K_seq ?_
  refine K_regionD (fin := false) (R := [0, 1, 3, 4, 6, 7, 2, 5, 8, 9, 10]) (by kernel_rfl) mixed (.cons_cons _ (List.nil_sublist _)) ?_
  refine D_val rfl rfl rfl (R_fieldAddr 0 fd100_0 rfl) ?_
  refine D_val rfl rfl rfl (R_loadO ty3 0 rfl rfl rfl rfl (fun _ => rfl) rfl) ?_
  refine D_val rfl rfl rfl (R_fieldAddr 1 fd100_1 rfl) ?_
  refine D_val rfl rfl rfl (R_loadO ty25 0 rfl rfl rfl rfl (fun _ => rfl) rfl) ?_
  refine D_val rfl rfl rfl (R_fieldAddr 2 fd100_2 rfl) ?_
  refine D_val rfl rfl rfl (R_loadO ty3 0 rfl rfl rfl rfl (fun _ => rfl) rfl) ?_
  refine D_alloc rfl rfl rfl (A_buildSlice (vs := [.int .i64 r.sym]) sl25 ty3 z3 rfl rfl (by simp [Value.cells]) (by simp) rfl (by decide)) fun b5 => ?_
  refine D_appendLit 0 ap25 sl25 rfl rfl rfl rfl rfl ⟨⟨0, rfl⟩, trivial⟩ hv.1 (by simp [ints]) rfl (ints_one _) ⟨by omega, by omega⟩ fun a8 k8 => ?_

  refine D_alloc rfl rfl rfl (A_buildSlice (vs := [.int .i64 r.to]) sl25 ty3 z3 rfl rfl (by simp [Value.cells]) (by simp) rfl (by decide)) fun b11 => ?_
  refine D_append1 0 ap25 rfl rfl rfl rfl rfl rfl ⟨⟨0, rfl⟩, trivial⟩ rfl rfl ⟨by omega, by omega⟩ fun a12 k12 hn12 => ?_
  refine D_val rfl rfl rfl (R_assign rfl) ?_
  refine D_done ?_
  refine Q_then ?_
  refine K_ret ?_
  refine KQ_pubrow rfl fun Hp hp hrow => ?_
  refine results_gen (rs := [.tmp 2]) (vs := [_]) rfl ⟨rfl, trivial⟩ ?_
  have h := hrow.sl
  have e : ints (keyL r) = ([Value.int .i64 r.sym] ++ ints r.args) ++ [Value.int .i64 r.to] := by simp [keyL, ints]
  have e2 : (keyL r).length = 1 + r.args.length + 1 := by rw [keyL_len]; omega
  refine ⟨?_, ?_⟩
  · rw [e, e2]; exact h
  · intro x hx
    simp only [keyL, List.mem_cons, List.mem_append, List.not_mem_nil, or_false] at hx
    rcases hx with rfl | hx | rfl
    · exact hs
    · exact hv.2 x hx
    · exact ht
end Go.Proofs.X

namespace Go.Proofs.X
open Go Pal Go.Proofs
attribute [local irreducible] Pal.KO Pal.KC Pal.KQ Pal.KD
theorem z42 : zeroOk Tryz.prog T42 (.agg #[.slice none 0 0, .int .i64 0, .slice none 0 0, .slice none 0 0]) := .of (by kernel_rfl)
theorem pl42 : placesOk Tryz.prog T42 [(0, 1), (1, 1), (2, 1), (3, 1)] := ⟨_, Tryz.underlying25, by kernel_rfl⟩
theorem c60 : callable Tryz.prog F60 = true := by kernel_rfl
theorem c62 : callable Tryz.prog F62 = true := by kernel_rfl
theorem c69 : callable Tryz.prog F69 = true := by kernel_rfl
theorem ap40 : App Tryz.prog T40 T100 3 40 := .of sl40 (by kernel_rfl)
theorem rsorted_spec (a : Au) (vr vu vf : Value) (H : View) (ha : RepAu H a vr vu vf) (hsm : a.rules.length ≤ 1048576) (hst : a.states ≤ 1048576) (har : ∀ r ∈ a.rules, r.args.length ≤ 1048576) : Sat Tryz.prog F67 #[.agg #[vr, .int .i64 a.states, vu, vf]] H (fun r H' => ∃ v1 v2 v3, r = .agg #[v1, .int .i64 a.states, v2, v3] ∧ RepAu H' (sortedM a) v1 v2 v3) := by
  obtain ⟨ra, rcp, rfl⟩ := ha.r.shape
  obtain ⟨fa, fcp, rfl⟩ := ha.f.shape
  obtain ⟨ua, ucp, rfl⟩ := ha.ushape
  have hrl := ha.rl
  have hul := ha.ul
  have hfl := ha.fl
  have hsl := sortR_len
  refine enterO (n := 99) (args := [.agg #[.slice ra a.ranks.length rcp, .int .i64 a.states, .slice ua a.rules.length ucp, .slice fa a.final.length fcp]]) Tryz.func113 rfl rfl rfl fun w0 => ?_
  refine K_seq ?_
  refine K_region ?_
  refine KA (A_box rfl) rfl fun b1 => ?_
  refine KA (A_alloc z42) rfl fun b2 => ?_
  refine K_nil ?_
  refine Q_then ?_
  refine K_seq ?_
  refine K_region ?_
  refine KV (R_fieldAddr 0 fd42_0 rfl) rfl ?_
  refine KV (R_loadO ty25 1 rfl rfl rfl rfl (fun _ => rfl) rfl) rfl ?_
  refine KV (R_fieldAddr 1 fd42_1 rfl) rfl ?_
  refine KV (R_loadO ty3 1 rfl rfl rfl rfl (fun _ => rfl) rfl) rfl ?_
  refine KV (R_build z42 pl42 rfl rfl) rfl ?_
  refine KA (A_alloc z42) rfl fun b3 => ?_
  refine K_store ty42 0 rfl rfl rfl rfl rfl rfl ?_
  refine K_nil ?_
  refine Q_then ?_
  refine K_seq ?_
  refine K_seq ?_
  refine K_region ?_
  refine KV (R_assign rfl) rfl ?_
  refine K_nil ?_
  refine Q_then ?_
  refine K_block ?_
  refine K_loopD (G := Nat × View × Option Addr × Nat × List Value) [4, 5, 12, 13, 14, 15, 16, 17, 18, 19, 20, 21, 22, 23, 24, 25, 26, 27, 28, 29, 30, 31, 32, 33, 34, 35, 36, 37, 38, 39, 40, 41, 42, 43, 44, 45, 46, 47, 48, 49, 50, 51, 52, 53, 54, 55, 56, 57, 58, 59, 60, 61, 62, 63, 64, 65, 66, 67, 68, 69, 70, 71, 72, 73, 74, 75, 76, 77, 78, 79, 80, 81] (fun g => [(4, .int .i64 (g.1 : Int))]) (fun hl g => (hl.set 0 (blk b3 (.cells #[.slice ra a.ranks.length rcp, .int .i64 a.states, .slice g.2.2.1 (sortR (a.rules.take g.1)).length g.2.2.2.1, .slice none 0 0] T42 (0, 0))))) (fun g => g.2.1) (fun g => (g.1 ≤ a.rules.length) ∧ (VLe H g.2.1) ∧ (SlAt g.2.1 (.slice g.2.2.1 (sortR (a.rules.take g.1)).length g.2.2.2.1) (sortR (a.rules.take g.1)).length g.2.2.2.2) ∧ (RepL (RepR g.2.1) 3 (sortR (a.rules.take g.1)) g.2.2.2.2) ∧ ((sortR (a.rules.take g.1)).length ≤ g.2.2.2.1)) (fun g => a.rules.length - g.1) (0, H, none, 0, []) ⟨Nat.zero_le _, VLe.refl _, ⟨none, 0, rfl, .inl ⟨rfl, rfl⟩⟩, .nil, Nat.le_refl _⟩ ⟨rfl, trivial⟩ (by simp only [args0, Nat.reduceAdd, del, memN, beqN, Nat.reduceBEq, cond_true, cond_false]; rfl) rfl rfl ?_
  rintro ⟨i, V, oa, oc, cells⟩ ⟨hi, hV, hS, hC, hoc⟩
  dsimp only at hi hV hS hC hoc
  dsimp only [List.set, List.cons_append, List.nil_append]
  have hln : (sortR (a.rules.take i)).length ≤ i := Nat.le_trans (hsl _) (by rw [List.length_take]; omega)
  have hcl := hC.length
  refine K_seq ?_
  refine K_seq ?_
  refine K_region ?_
  refine KV (R_move rfl) rfl ?_
  refine KV (R_fieldAddr 2 fd42_2 rfl) rfl ?_
  refine KV (R_loadO ty40 2 rfl rfl rfl rfl (fun _ => rfl) rfl) rfl ?_
  refine KV (R_len sl40 rfl) rfl ?_
  refine KV (R_cmp rfl rfl rfl) rfl ?_
  refine K_nil ?_
  refine Q_then ?_
  refine K_if rfl (fun h16 => ?_) (fun h16 => ?_)
  ·
    have hi' : i < a.rules.length := by omega
    obtain ⟨ub, uo, ucp2, xa, xcp, hue, hrc, hsr, hsym, hto, hxl⟩ := (ha.mono hV).rule hi'
    cases hue
    have hari := har _ (List.getElem_mem hi')
    refine K_skip ?_
    refine Q_then ?_
    refine K_seq ?_
    refine K_block ?_
    refine K_seq ?_
    refine K_region ?_
    refine KV (R_assign rfl) rfl ?_
    refine K_nil ?_
    refine Q_then ?_
    refine K_seq ?_
    refine K_block ?_
    refine K_loopD (G := Nat × View) [5, 19, 20, 21, 22, 23, 24, 25, 26, 27, 28, 29, 30, 31, 32, 33, 34, 35, 36, 37, 38, 39, 40, 41] (fun g => [(5, .int .i64 (g.1 : Int))]) (fun hl g => hl) (fun g => g.2) (fun g => (g.1 ≤ (sortR (a.rules.take i)).length) ∧ (VLe V g.2) ∧ (∀ j (h : j < (sortR (a.rules.take i)).length), j < g.1 → cmpL (keyL (sortR (a.rules.take i))[j]) (keyL a.rules[i]) < 0)) (fun g => (sortR (a.rules.take i)).length - g.1) (0, V) ⟨Nat.zero_le _, VLe.refl _, fun j _ h => by simp at h⟩ ⟨rfl, trivial⟩ (by simp only [args0, Nat.reduceAdd, del, memN, beqN, Nat.reduceBEq, cond_true, cond_false]; rfl) rfl rfl ?_
    rintro ⟨at_, U⟩ ⟨hat, hU, hlt⟩
    dsimp only at hat hU hlt
    dsimp only [List.set, List.cons_append, List.nil_append]
    refine K_seq ?_
    refine K_seq ?_
    refine K_regionD (fin := false) (R := [0, 1, 2, 3, 4, 5, 6, 7, 8, 9, 10, 12, 13, 14, 15, 16, 11, 17, 18, 19, 20]) (by kernel_rfl) mixed (.cons_cons _ (.cons_cons _ (.cons_cons _ (List.nil_sublist _)))) ?_
    refine D_val rfl rfl rfl (R_move rfl) ?_
    refine D_val rfl rfl rfl (R_fieldAddr 2 fd42_2 rfl) ?_
    refine D_val rfl rfl rfl (R_loadO ty40 0 rfl rfl rfl rfl (fun _ => rfl) rfl) ?_
    refine D_val rfl rfl rfl (R_len sl40 rfl) ?_
    refine D_val rfl rfl rfl (R_cmp rfl rfl rfl) ?_
    refine D_val rfl rfl rfl (R_move rfl) ?_
    refine D_split ?_ ?_
    ·
      intro h24
      have hat' : at_ < (sortR (a.rules.take i)).length := by omega
      obtain ⟨ob, oo, oa2, ocp2, hoe, hoc2, hos, hosy, hoto, hol⟩ := rules_elem (hS.mono hU) (RepR.imp3 hU hC) hat'
      cases hoe
      have haro := har _ (List.mem_of_mem_take (sortR_mem (List.getElem_mem hat')))
      refine D_val rfl rfl rfl (R_fieldAddr 2 fd42_2 rfl) ?_
      refine D_val rfl rfl rfl (R_loadO ty40 0 rfl rfl rfl rfl (fun _ => rfl) rfl) ?_
      refine D_val rfl rfl rfl (R_move rfl) ?_
      refine D_val rfl rfl rfl (R_indexN sl40 ty100 rfl rfl (by omega)) ?_
      refine D_val rfl rfl rfl (R_loadH ty100 rfl (hoc2) rfl (fun e => by cases e) rfl) ?_
      refine D_val rfl rfl rfl (R_fieldAddr 2 fd42_2 rfl) ?_
      refine D_val rfl rfl rfl (R_loadO ty40 2 rfl rfl rfl rfl (fun _ => rfl) rfl) ?_
      refine D_val rfl rfl rfl (R_move rfl) ?_
      refine D_val rfl rfl rfl (R_indexN sl40 ty100 rfl rfl (by omega)) ?_
      refine D_val rfl rfl rfl (R_loadH ty100 rfl (hrc.mono hU) rfl (fun e => by cases e) rfl) ?_
      refine D_call rfl rfl c69 rfl ⟨⟨0, rfl⟩, ⟨1, rfl⟩, ⟨2, rfl⟩, trivial⟩ (key_spec2 (sortR (a.rules.take i))[at_] _ U hos hosy hoto hol) ?_
      rintro kv1 U1a hUa hk1
      obtain ⟨ka1, kc1x, rfl⟩ := hk1.shape
      refine D_call rfl rfl c69 rfl ⟨⟨0, rfl⟩, ⟨1, rfl⟩, ⟨2, rfl⟩, trivial⟩ (key_spec2 a.rules[i] _ U1a (hsr.mono (hU.trans hUa)) hsym hto hxl) ?_
      rintro kv2 U1b hUb hk2
      obtain ⟨ka2, kc2x, rfl⟩ := hk2.shape
      refine D_call rfl rfl c60 rfl ⟨⟨0, rfl⟩, ⟨1, rfl⟩, ⟨2, rfl⟩, trivial⟩ (cmpl_spec (keyL (sortR (a.rules.take i))[at_]) (keyL a.rules[i]) _ _ U1b (hk1.mono hUb) hk2 (by rw [keyL_len]; omega) (by rw [keyL_len]; omega)) ?_
      rintro _ U1c hUc0 rfl
      have hUc : VLe U U1c := hUa.trans (hUb.trans hUc0)
      refine D_val rfl rfl rfl (R_cmp rfl rfl rfl) ?_
      refine D_val rfl rfl rfl (R_pickT rfl rfl) ?_
      refine D_done ?_
      refine Q_then ?_
      refine K_if rfl (fun h39 => ?_) (fun h39 => ?_)
      ·
        have hlt2 : ∀ j (h : j < (sortR (a.rules.take i)).length), j < at_ + 1 → cmpL (keyL (sortR (a.rules.take i))[j]) (keyL a.rules[i]) < 0 := by
          intro j h hj
          by_cases e : j = at_
          · subst e; exact h39
          · exact hlt j h (by omega)
        refine K_skip ?_
        refine Q_then ?_
        refine K_block ?_
        refine K_region ?_
        refine KV (R_move rfl) rfl ?_
        refine KV (R_add rfl rfl (by omega)) rfl ?_
        refine KV (R_assign rfl) rfl ?_
        refine K_nil ?_
        refine Q_block ?_
        refine Q_nextD (at_ + 1, U1c) ⟨hat', hU.trans hUc, hlt2⟩ (by (try dsimp only); omega) ⟨rfl, trivial⟩ rfl rfl rfl
      ·
        have hstop : ∀ h : at_ < (sortR (a.rules.take i)).length, ¬ cmpL (keyL (sortR (a.rules.take i))[at_]) (keyL a.rules[i]) < 0 := fun _ => h39
        have hVU := hU.trans hUc
        refine K_exit ?_
        refine Q_then_exit ?_
        refine Q_then_exit ?_
        refine Q_block_exit ?_
        refine Q_then ?_
        refine K_seq ?_
        refine K_seq ?_
        refine K_regionD (fin := false) (R := [0, 1, 2, 3, 4, 5, 6, 7, 8, 9, 10, 12, 13, 14, 15, 16, 11, 17, 18, 19, 20]) (by kernel_rfl) mixed (.cons_cons _ (.cons_cons _ (.cons_cons _ (List.nil_sublist _)))) ?_
        refine D_val rfl rfl rfl (R_move rfl) ?_
        refine D_val rfl rfl rfl (R_fieldAddr 2 fd42_2 rfl) ?_
        refine D_val rfl rfl rfl (R_loadO ty40 0 rfl rfl rfl rfl (fun _ => rfl) rfl) ?_
        refine D_val rfl rfl rfl (R_len sl40 rfl) ?_
        refine D_val rfl rfl rfl (R_cmp rfl rfl rfl) ?_
        refine D_val rfl rfl rfl (R_move rfl) ?_
        refine D_split ?_ ?_
        ·
          intro h47
          have hat4 : at_ < (sortR (a.rules.take i)).length := by omega
          obtain ⟨ob4, oo4, oa4, ocp4, hoe4, hoc4, hos4, hosy4, hoto4, hol4⟩ := rules_elem (hS.mono hVU) (RepR.imp3 hVU hC) hat4
          cases hoe4
          have haro4 := har _ (List.mem_of_mem_take (sortR_mem (List.getElem_mem hat4)))
          refine D_val rfl rfl rfl (R_fieldAddr 2 fd42_2 rfl) ?_
          refine D_val rfl rfl rfl (R_loadO ty40 0 rfl rfl rfl rfl (fun _ => rfl) rfl) ?_
          refine D_val rfl rfl rfl (R_move rfl) ?_
          refine D_val rfl rfl rfl (R_indexN sl40 ty100 rfl rfl (by omega)) ?_
          refine D_val rfl rfl rfl (R_loadH ty100 rfl (hoc4) rfl (fun e => by cases e) rfl) ?_
          refine D_val rfl rfl rfl (R_fieldAddr 2 fd42_2 rfl) ?_
          refine D_val rfl rfl rfl (R_loadO ty40 2 rfl rfl rfl rfl (fun _ => rfl) rfl) ?_
          refine D_val rfl rfl rfl (R_move rfl) ?_
          refine D_val rfl rfl rfl (R_indexN sl40 ty100 rfl rfl (by omega)) ?_
          refine D_val rfl rfl rfl (R_loadH ty100 rfl (hrc.mono hVU) rfl (fun e => by cases e) rfl) ?_
          refine D_call rfl rfl c69 rfl ⟨⟨0, rfl⟩, ⟨1, rfl⟩, ⟨2, rfl⟩, trivial⟩ (key_spec2 (sortR (a.rules.take i))[at_] _ _ hos4 hosy4 hoto4 hol4) ?_
          rintro kv3 U4a hU4a hk3
          obtain ⟨ka3, kc3x, rfl⟩ := hk3.shape
          refine D_call rfl rfl c69 rfl ⟨⟨0, rfl⟩, ⟨1, rfl⟩, ⟨2, rfl⟩, trivial⟩ (key_spec2 a.rules[i] _ U4a (hsr.mono (hVU.trans hU4a)) hsym hto hxl) ?_
          rintro kv4 U4b hU4b hk4
          obtain ⟨ka4, kc4x, rfl⟩ := hk4.shape
          refine D_call rfl rfl c60 rfl ⟨⟨0, rfl⟩, ⟨1, rfl⟩, ⟨2, rfl⟩, trivial⟩ (cmpl_spec (keyL (sortR (a.rules.take i))[at_]) (keyL a.rules[i]) _ _ U4b (hk3.mono hU4b) hk4 (by rw [keyL_len]; omega) (by rw [keyL_len]; omega)) ?_
          rintro _ U4c hU4c rfl
          have hUcy := hU4a.trans (hU4b.trans hU4c)
          refine D_val rfl rfl rfl (R_cmp rfl rfl rfl) ?_
          refine D_val rfl rfl rfl (R_pickT rfl rfl) ?_
          refine D_done ?_
          refine Q_then ?_
          refine K_if rfl (fun h62 => ?_) (fun h62 => ?_)
          ·
            have hU2 := hVU.trans hUcy
            have hins : insR a.rules[i] (sortR (a.rules.take i)) = (sortR (a.rules.take i)) := by rw [insR_at hat hlt hstop, if_pos ⟨hat4, h62⟩]
            refine K_exit ?_
            refine Q_then_exit ?_
            refine Q_block_exit ?_
            refine Q_then ?_
            refine K_region ?_
            refine KV (R_move rfl) rfl ?_
            refine KV (R_add rfl rfl (by omega)) rfl ?_
            refine KV (R_assign rfl) rfl ?_
            refine K_nil ?_
            refine Q_nextD (i + 1, _, _, oc, cells) ⟨hi', hV.trans hU2, by rw [sortR_take hi', hins]; exact hS.mono hU2, by rw [sortR_take hi', hins]; exact hC.imp fun _ _ h => h.mono hU2, by rw [sortR_take hi', hins]; exact hoc⟩ (by (try dsimp only); omega) ⟨rfl, trivial⟩ rfl (by dsimp only; rw [sortR_take hi', hins]) rfl
          ·
            have hU2 := hVU.trans hUcy
            have hins : insR a.rules[i] (sortR (a.rules.take i)) = (sortR (a.rules.take i)).take at_ ++ a.rules[i] :: (sortR (a.rules.take i)).drop at_ := by rw [insR_at hat hlt hstop, if_neg (by rintro ⟨_, h⟩; exact h62 h)]
            refine K_skip ?_
            refine Q_then ?_
            refine K_regionD (fin := true) (R := [1, 2, 3, 4, 6, 7, 8, 9, 10, 13, 14, 15, 16, 0, 5, 11, 12, 17, 18, 19]) (by kernel_rfl) mixed (.cons_cons _ (.cons_cons _ (.cons_cons _ (List.nil_sublist _)))) ?_
            refine D_val rfl rfl rfl (R_fieldAddr 2 fd42_2 rfl) ?_
            refine D_val rfl rfl rfl (R_loadO ty40 0 rfl rfl rfl rfl (fun _ => rfl) rfl) ?_
            refine D_val rfl rfl rfl (R_move rfl) ?_
            refine D_val rfl rfl rfl (R_sliceHi sl40 ty100 rfl rfl (Nat.le_trans hat hoc)) ?_
            refine D_val rfl rfl rfl (R_fieldAddr 2 fd42_2 rfl) ?_
            refine D_val rfl rfl rfl (R_loadO ty40 2 rfl rfl rfl rfl (fun _ => rfl) rfl) ?_
            refine D_val rfl rfl rfl (R_move rfl) ?_
            refine D_val rfl rfl rfl (R_indexN sl40 ty100 rfl rfl (by omega)) ?_
            refine D_val rfl rfl rfl (R_loadH ty100 rfl (hrc.mono hU2) rfl (fun e => by cases e) rfl) ?_
            refine D_val rfl rfl rfl (R_fieldAddr 2 fd42_2 rfl) ?_
            refine D_val rfl rfl rfl (R_loadO ty40 0 rfl rfl rfl rfl (fun _ => rfl) rfl) ?_
            refine D_val rfl rfl rfl (R_move rfl) ?_
            refine D_val rfl rfl rfl (R_sliceLo sl40 ty100 rfl rfl hat) ?_
            refine D_alloc rfl rfl rfl (A_buildSlice (vs := []) sl40 ty100 z100 rfl rfl (by simp) (by simp) rfl (by decide)) fun b63 => ?_
            have hcl3 : (cells.take (at_ * 3)).length = at_ * 3 := by rw [List.length_take, hcl]; omega
            refine D_append0 0 ap40 sl40 rfl rfl rfl rfl rfl ⟨⟨0, rfl⟩, ⟨1, rfl⟩, ⟨2, rfl⟩, trivial⟩ ((hS.mono hU2).hi hat hoc) hcl3 ((hC.take at_).oneCell fun _ _ h => h.one) ⟨by omega, by omega⟩ fun a68 k68 => ?_

            refine D_alloc rfl rfl rfl (A_buildSlice (vs := [.agg #[.int .i64 a.rules[i].sym, .slice xa a.rules[i].args.length xcp, .int .i64 a.rules[i].to]]) sl40 ty100 z100 rfl rfl (by simp [Value.cells]) (by simp) rfl (by decide)) fun b74 => ?_
            refine D_append1 0 ap40 rfl rfl rfl rfl rfl rfl ⟨⟨0, rfl⟩, ⟨1, rfl⟩, ⟨2, rfl⟩, trivial⟩ rfl rfl ⟨by omega, by omega⟩ fun a75 k75 hn75 => ?_
            have hcl4 : (cells.drop (at_ * 3)).length = ((sortR (a.rules.take i)).length - at_) * 3 := by rw [List.length_drop, hcl, Nat.sub_mul]
            refine D_appendS 0 ap40 sl40 rfl rfl rfl rfl rfl ⟨⟨0, rfl⟩, ⟨1, rfl⟩, ⟨2, rfl⟩, trivial⟩ ((hS.mono hU2).lo hcl hat hoc) hcl4 ((hC.drop at_).oneCell fun _ _ h => h.one) ⟨by omega, by omega⟩ fun a80 k80 => ?_

            refine D_val rfl rfl rfl (R_fieldAddr 2 fd42_2 rfl) ?_
            refine D_lastStore ty40 1 rfl rfl rfl rfl rfl rfl rfl rfl ?_
            refine KQ_front 0 rfl ?_
            refine KQ_pubrowC rfl fun Hp hp hrow hzc => ?_
            obtain ⟨za, zc, hze, hzc⟩ := hzc
            cases hze
            have hnl : ((sortR (a.rules.take i)).take at_ ++ a.rules[i] :: (sortR (a.rules.take i)).drop at_).length = at_ + 1 + ((sortR (a.rules.take i)).length - at_) := by simp only [List.length_append, List.length_cons, List.length_take, List.length_drop]; omega
            have hcat : (sortR (a.rules.take i)).take at_ ++ a.rules[i] :: (sortR (a.rules.take i)).drop at_ = ((sortR (a.rules.take i)).take at_ ++ [a.rules[i]]) ++ (sortR (a.rules.take i)).drop at_ := by simp
            refine Q_block ?_
            refine Q_then ?_
            refine K_region ?_
            refine KV (R_move rfl) rfl ?_
            refine KV (R_add rfl rfl (by omega)) rfl ?_
            refine KV (R_assign rfl) rfl ?_
            refine K_nil ?_
            refine Q_nextD (i + 1, Hp, a80, k80, (cells.take (at_ * 3) ++ [.int .i64 a.rules[i].sym, .slice xa a.rules[i].args.length xcp, .int .i64 a.rules[i].to]) ++ cells.drop (at_ * 3)) ⟨hi', hV.trans (hU2.trans hp), by rw [sortR_take hi', hins, hnl]; exact hrow.sl, by rw [sortR_take hi', hins, hcat]; exact (((hC.take at_).imp fun _ _ h => h.mono (hU2.trans hp)).snoc ((RepR.of_rule hsr hsym hto hxl).mono (hU2.trans hp)) rfl).append ((hC.drop at_).imp fun _ _ h => h.mono (hU2.trans hp)), by rw [sortR_take hi', hins, hnl]; exact hzc⟩ (by (try dsimp only); omega) ⟨rfl, trivial⟩ rfl (by dsimp only; rw [sortR_take hi', hins, hnl]; rfl) rfl
        ·
          intro h47
          have hU2 := hVU
          have hins : insR a.rules[i] (sortR (a.rules.take i)) = (sortR (a.rules.take i)).take at_ ++ a.rules[i] :: (sortR (a.rules.take i)).drop at_ := by rw [insR_at hat hlt hstop, if_neg (by rintro ⟨h, _⟩; omega)]
          refine D_skip rfl rfl ?_
          refine D_skip rfl rfl ?_
          refine D_skip rfl rfl ?_
          refine D_skip rfl rfl ?_
          refine D_skip rfl rfl ?_
          refine D_skip rfl rfl ?_
          refine D_skip rfl rfl ?_
          refine D_skip rfl rfl ?_
          refine D_skip rfl rfl ?_
          refine D_skip rfl rfl ?_
          refine D_skip rfl rfl ?_
          refine D_skip rfl rfl ?_
          refine D_skip rfl rfl ?_
          refine D_skip rfl rfl ?_
          refine D_val rfl rfl rfl (R_pickF rfl rfl) ?_
          refine D_done ?_
          refine Q_then ?_
          refine K_ifF rfl ?_
          refine K_skip ?_
          refine Q_then ?_
          refine K_regionD (fin := true) (R := [1, 2, 3, 4, 6, 7, 8, 9, 10, 13, 14, 15, 16, 0, 5, 11, 12, 17, 18, 19]) (by kernel_rfl) mixed (.cons_cons _ (.cons_cons _ (.cons_cons _ (List.nil_sublist _)))) ?_
          refine D_val rfl rfl rfl (R_fieldAddr 2 fd42_2 rfl) ?_
          refine D_val rfl rfl rfl (R_loadO ty40 0 rfl rfl rfl rfl (fun _ => rfl) rfl) ?_
          refine D_val rfl rfl rfl (R_move rfl) ?_
          refine D_val rfl rfl rfl (R_sliceHi sl40 ty100 rfl rfl (Nat.le_trans hat hoc)) ?_
          refine D_val rfl rfl rfl (R_fieldAddr 2 fd42_2 rfl) ?_
          refine D_val rfl rfl rfl (R_loadO ty40 2 rfl rfl rfl rfl (fun _ => rfl) rfl) ?_
          refine D_val rfl rfl rfl (R_move rfl) ?_
          refine D_val rfl rfl rfl (R_indexN sl40 ty100 rfl rfl (by omega)) ?_
          refine D_val rfl rfl rfl (R_loadH ty100 rfl (hrc.mono hU2) rfl (fun e => by cases e) rfl) ?_
          refine D_val rfl rfl rfl (R_fieldAddr 2 fd42_2 rfl) ?_
          refine D_val rfl rfl rfl (R_loadO ty40 0 rfl rfl rfl rfl (fun _ => rfl) rfl) ?_
          refine D_val rfl rfl rfl (R_move rfl) ?_
          refine D_val rfl rfl rfl (R_sliceLo sl40 ty100 rfl rfl hat) ?_
          refine D_alloc rfl rfl rfl (A_buildSlice (vs := []) sl40 ty100 z100 rfl rfl (by simp) (by simp) rfl (by decide)) fun b63 => ?_
          have hcl3 : (cells.take (at_ * 3)).length = at_ * 3 := by rw [List.length_take, hcl]; omega
          refine D_append0 0 ap40 sl40 rfl rfl rfl rfl rfl ⟨⟨0, rfl⟩, ⟨1, rfl⟩, ⟨2, rfl⟩, trivial⟩ ((hS.mono hU2).hi hat hoc) hcl3 ((hC.take at_).oneCell fun _ _ h => h.one) ⟨by omega, by omega⟩ fun a68 k68 => ?_

          refine D_alloc rfl rfl rfl (A_buildSlice (vs := [.agg #[.int .i64 a.rules[i].sym, .slice xa a.rules[i].args.length xcp, .int .i64 a.rules[i].to]]) sl40 ty100 z100 rfl rfl (by simp [Value.cells]) (by simp) rfl (by decide)) fun b74 => ?_
          refine D_append1 0 ap40 rfl rfl rfl rfl rfl rfl ⟨⟨0, rfl⟩, ⟨1, rfl⟩, ⟨2, rfl⟩, trivial⟩ rfl rfl ⟨by omega, by omega⟩ fun a75 k75 hn75 => ?_
          have hcl4 : (cells.drop (at_ * 3)).length = ((sortR (a.rules.take i)).length - at_) * 3 := by rw [List.length_drop, hcl, Nat.sub_mul]
          refine D_appendS 0 ap40 sl40 rfl rfl rfl rfl rfl ⟨⟨0, rfl⟩, ⟨1, rfl⟩, ⟨2, rfl⟩, trivial⟩ ((hS.mono hU2).lo hcl hat hoc) hcl4 ((hC.drop at_).oneCell fun _ _ h => h.one) ⟨by omega, by omega⟩ fun a80 k80 => ?_

          refine D_val rfl rfl rfl (R_fieldAddr 2 fd42_2 rfl) ?_
          refine D_lastStore ty40 1 rfl rfl rfl rfl rfl rfl rfl rfl ?_
          refine KQ_front 0 rfl ?_
          refine KQ_pubrowC rfl fun Hp hp hrow hzc => ?_
          obtain ⟨za, zc, hze, hzc⟩ := hzc
          cases hze
          have hnl : ((sortR (a.rules.take i)).take at_ ++ a.rules[i] :: (sortR (a.rules.take i)).drop at_).length = at_ + 1 + ((sortR (a.rules.take i)).length - at_) := by simp only [List.length_append, List.length_cons, List.length_take, List.length_drop]; omega
          have hcat : (sortR (a.rules.take i)).take at_ ++ a.rules[i] :: (sortR (a.rules.take i)).drop at_ = ((sortR (a.rules.take i)).take at_ ++ [a.rules[i]]) ++ (sortR (a.rules.take i)).drop at_ := by simp
          refine Q_block ?_
          refine Q_then ?_
          refine K_region ?_
          refine KV (R_move rfl) rfl ?_
          refine KV (R_add rfl rfl (by omega)) rfl ?_
          refine KV (R_assign rfl) rfl ?_
          refine K_nil ?_
          refine Q_nextD (i + 1, Hp, a80, k80, (cells.take (at_ * 3) ++ [.int .i64 a.rules[i].sym, .slice xa a.rules[i].args.length xcp, .int .i64 a.rules[i].to]) ++ cells.drop (at_ * 3)) ⟨hi', hV.trans (hU2.trans hp), by rw [sortR_take hi', hins, hnl]; exact hrow.sl, by rw [sortR_take hi', hins, hcat]; exact (((hC.take at_).imp fun _ _ h => h.mono (hU2.trans hp)).snoc ((RepR.of_rule hsr hsym hto hxl).mono (hU2.trans hp)) rfl).append ((hC.drop at_).imp fun _ _ h => h.mono (hU2.trans hp)), by rw [sortR_take hi', hins, hnl]; exact hzc⟩ (by (try dsimp only); omega) ⟨rfl, trivial⟩ rfl (by dsimp only; rw [sortR_take hi', hins, hnl]; rfl) rfl
    ·
      intro h24
      have hate : at_ = (sortR (a.rules.take i)).length := by omega
      have hstop : ∀ h : at_ < (sortR (a.rules.take i)).length, ¬ cmpL (keyL (sortR (a.rules.take i))[at_]) (keyL a.rules[i]) < 0 := fun h => absurd h (by omega)
      have hVU := hU
      refine D_skip rfl rfl ?_
      refine D_skip rfl rfl ?_
      refine D_skip rfl rfl ?_
      refine D_skip rfl rfl ?_
      refine D_skip rfl rfl ?_
      refine D_skip rfl rfl ?_
      refine D_skip rfl rfl ?_
      refine D_skip rfl rfl ?_
      refine D_skip rfl rfl ?_
      refine D_skip rfl rfl ?_
      refine D_skip rfl rfl ?_
      refine D_skip rfl rfl ?_
      refine D_skip rfl rfl ?_
      refine D_skip rfl rfl ?_
      refine D_val rfl rfl rfl (R_pickF rfl rfl) ?_
      refine D_done ?_
      refine Q_then ?_
      refine K_ifF rfl ?_
      refine K_exit ?_
      refine Q_then_exit ?_
      refine Q_then_exit ?_
      refine Q_block_exit ?_
      refine Q_then ?_
      refine K_seq ?_
      refine K_seq ?_
      refine K_regionD (fin := false) (R := [0, 1, 2, 3, 4, 5, 6, 7, 8, 9, 10, 12, 13, 14, 15, 16, 11, 17, 18, 19, 20]) (by kernel_rfl) mixed (.cons_cons _ (.cons_cons _ (.cons_cons _ (List.nil_sublist _)))) ?_
      refine D_val rfl rfl rfl (R_move rfl) ?_
      refine D_val rfl rfl rfl (R_fieldAddr 2 fd42_2 rfl) ?_
      refine D_val rfl rfl rfl (R_loadO ty40 0 rfl rfl rfl rfl (fun _ => rfl) rfl) ?_
      refine D_val rfl rfl rfl (R_len sl40 rfl) ?_
      refine D_val rfl rfl rfl (R_cmp rfl rfl rfl) ?_
      refine D_val rfl rfl rfl (R_move rfl) ?_
      refine D_split ?_ ?_
      ·
        intro h47
        have hat4 : at_ < (sortR (a.rules.take i)).length := by omega
        obtain ⟨ob4, oo4, oa4, ocp4, hoe4, hoc4, hos4, hosy4, hoto4, hol4⟩ := rules_elem (hS.mono hVU) (RepR.imp3 hVU hC) hat4
        cases hoe4
        have haro4 := har _ (List.mem_of_mem_take (sortR_mem (List.getElem_mem hat4)))
        refine D_val rfl rfl rfl (R_fieldAddr 2 fd42_2 rfl) ?_
        refine D_val rfl rfl rfl (R_loadO ty40 0 rfl rfl rfl rfl (fun _ => rfl) rfl) ?_
        refine D_val rfl rfl rfl (R_move rfl) ?_
        refine D_val rfl rfl rfl (R_indexN sl40 ty100 rfl rfl (by omega)) ?_
        refine D_val rfl rfl rfl (R_loadH ty100 rfl (hoc4) rfl (fun e => by cases e) rfl) ?_
        refine D_val rfl rfl rfl (R_fieldAddr 2 fd42_2 rfl) ?_
        refine D_val rfl rfl rfl (R_loadO ty40 2 rfl rfl rfl rfl (fun _ => rfl) rfl) ?_
        refine D_val rfl rfl rfl (R_move rfl) ?_
        refine D_val rfl rfl rfl (R_indexN sl40 ty100 rfl rfl (by omega)) ?_
        refine D_val rfl rfl rfl (R_loadH ty100 rfl (hrc.mono hVU) rfl (fun e => by cases e) rfl) ?_
        refine D_call rfl rfl c69 rfl ⟨⟨0, rfl⟩, ⟨1, rfl⟩, ⟨2, rfl⟩, trivial⟩ (key_spec2 (sortR (a.rules.take i))[at_] _ _ hos4 hosy4 hoto4 hol4) ?_
        rintro kv3 U4a hU4a hk3
        obtain ⟨ka3, kc3x, rfl⟩ := hk3.shape
        refine D_call rfl rfl c69 rfl ⟨⟨0, rfl⟩, ⟨1, rfl⟩, ⟨2, rfl⟩, trivial⟩ (key_spec2 a.rules[i] _ U4a (hsr.mono (hVU.trans hU4a)) hsym hto hxl) ?_
        rintro kv4 U4b hU4b hk4
        obtain ⟨ka4, kc4x, rfl⟩ := hk4.shape
        refine D_call rfl rfl c60 rfl ⟨⟨0, rfl⟩, ⟨1, rfl⟩, ⟨2, rfl⟩, trivial⟩ (cmpl_spec (keyL (sortR (a.rules.take i))[at_]) (keyL a.rules[i]) _ _ U4b (hk3.mono hU4b) hk4 (by rw [keyL_len]; omega) (by rw [keyL_len]; omega)) ?_
        rintro _ U4c hU4c rfl
        have hUcy := hU4a.trans (hU4b.trans hU4c)
        refine D_val rfl rfl rfl (R_cmp rfl rfl rfl) ?_
        refine D_val rfl rfl rfl (R_pickT rfl rfl) ?_
        refine D_done ?_
        refine Q_then ?_
        refine K_if rfl (fun h62 => ?_) (fun h62 => ?_)
        ·
          have hU2 := hVU.trans hUcy
          have hins : insR a.rules[i] (sortR (a.rules.take i)) = (sortR (a.rules.take i)) := by rw [insR_at hat hlt hstop, if_pos ⟨hat4, h62⟩]
          refine K_exit ?_
          refine Q_then_exit ?_
          refine Q_block_exit ?_
          refine Q_then ?_
          refine K_region ?_
          refine KV (R_move rfl) rfl ?_
          refine KV (R_add rfl rfl (by omega)) rfl ?_
          refine KV (R_assign rfl) rfl ?_
          refine K_nil ?_
          refine Q_nextD (i + 1, _, _, oc, cells) ⟨hi', hV.trans hU2, by rw [sortR_take hi', hins]; exact hS.mono hU2, by rw [sortR_take hi', hins]; exact hC.imp fun _ _ h => h.mono hU2, by rw [sortR_take hi', hins]; exact hoc⟩ (by (try dsimp only); omega) ⟨rfl, trivial⟩ rfl (by dsimp only; rw [sortR_take hi', hins]) rfl
        ·
          have hU2 := hVU.trans hUcy
          have hins : insR a.rules[i] (sortR (a.rules.take i)) = (sortR (a.rules.take i)).take at_ ++ a.rules[i] :: (sortR (a.rules.take i)).drop at_ := by rw [insR_at hat hlt hstop, if_neg (by rintro ⟨_, h⟩; exact h62 h)]
          refine K_skip ?_
          refine Q_then ?_
          refine K_regionD (fin := true) (R := [1, 2, 3, 4, 6, 7, 8, 9, 10, 13, 14, 15, 16, 0, 5, 11, 12, 17, 18, 19]) (by kernel_rfl) mixed (.cons_cons _ (.cons_cons _ (.cons_cons _ (List.nil_sublist _)))) ?_
          refine D_val rfl rfl rfl (R_fieldAddr 2 fd42_2 rfl) ?_
          refine D_val rfl rfl rfl (R_loadO ty40 0 rfl rfl rfl rfl (fun _ => rfl) rfl) ?_
          refine D_val rfl rfl rfl (R_move rfl) ?_
          refine D_val rfl rfl rfl (R_sliceHi sl40 ty100 rfl rfl (Nat.le_trans hat hoc)) ?_
          refine D_val rfl rfl rfl (R_fieldAddr 2 fd42_2 rfl) ?_
          refine D_val rfl rfl rfl (R_loadO ty40 2 rfl rfl rfl rfl (fun _ => rfl) rfl) ?_
          refine D_val rfl rfl rfl (R_move rfl) ?_
          refine D_val rfl rfl rfl (R_indexN sl40 ty100 rfl rfl (by omega)) ?_
          refine D_val rfl rfl rfl (R_loadH ty100 rfl (hrc.mono hU2) rfl (fun e => by cases e) rfl) ?_
          refine D_val rfl rfl rfl (R_fieldAddr 2 fd42_2 rfl) ?_
          refine D_val rfl rfl rfl (R_loadO ty40 0 rfl rfl rfl rfl (fun _ => rfl) rfl) ?_
          refine D_val rfl rfl rfl (R_move rfl) ?_
          refine D_val rfl rfl rfl (R_sliceLo sl40 ty100 rfl rfl hat) ?_
          refine D_alloc rfl rfl rfl (A_buildSlice (vs := []) sl40 ty100 z100 rfl rfl (by simp) (by simp) rfl (by decide)) fun b63 => ?_
          have hcl3 : (cells.take (at_ * 3)).length = at_ * 3 := by rw [List.length_take, hcl]; omega
          refine D_append0 0 ap40 sl40 rfl rfl rfl rfl rfl ⟨⟨0, rfl⟩, ⟨1, rfl⟩, ⟨2, rfl⟩, trivial⟩ ((hS.mono hU2).hi hat hoc) hcl3 ((hC.take at_).oneCell fun _ _ h => h.one) ⟨by omega, by omega⟩ fun a68 k68 => ?_

          refine D_alloc rfl rfl rfl (A_buildSlice (vs := [.agg #[.int .i64 a.rules[i].sym, .slice xa a.rules[i].args.length xcp, .int .i64 a.rules[i].to]]) sl40 ty100 z100 rfl rfl (by simp [Value.cells]) (by simp) rfl (by decide)) fun b74 => ?_
          refine D_append1 0 ap40 rfl rfl rfl rfl rfl rfl ⟨⟨0, rfl⟩, ⟨1, rfl⟩, ⟨2, rfl⟩, trivial⟩ rfl rfl ⟨by omega, by omega⟩ fun a75 k75 hn75 => ?_
          have hcl4 : (cells.drop (at_ * 3)).length = ((sortR (a.rules.take i)).length - at_) * 3 := by rw [List.length_drop, hcl, Nat.sub_mul]
          refine D_appendS 0 ap40 sl40 rfl rfl rfl rfl rfl ⟨⟨0, rfl⟩, ⟨1, rfl⟩, ⟨2, rfl⟩, trivial⟩ ((hS.mono hU2).lo hcl hat hoc) hcl4 ((hC.drop at_).oneCell fun _ _ h => h.one) ⟨by omega, by omega⟩ fun a80 k80 => ?_

          refine D_val rfl rfl rfl (R_fieldAddr 2 fd42_2 rfl) ?_
          refine D_lastStore ty40 1 rfl rfl rfl rfl rfl rfl rfl rfl ?_
          refine KQ_front 0 rfl ?_
          refine KQ_pubrowC rfl fun Hp hp hrow hzc => ?_
          obtain ⟨za, zc, hze, hzc⟩ := hzc
          cases hze
          have hnl : ((sortR (a.rules.take i)).take at_ ++ a.rules[i] :: (sortR (a.rules.take i)).drop at_).length = at_ + 1 + ((sortR (a.rules.take i)).length - at_) := by simp only [List.length_append, List.length_cons, List.length_take, List.length_drop]; omega
          have hcat : (sortR (a.rules.take i)).take at_ ++ a.rules[i] :: (sortR (a.rules.take i)).drop at_ = ((sortR (a.rules.take i)).take at_ ++ [a.rules[i]]) ++ (sortR (a.rules.take i)).drop at_ := by simp
          refine Q_block ?_
          refine Q_then ?_
          refine K_region ?_
          refine KV (R_move rfl) rfl ?_
          refine KV (R_add rfl rfl (by omega)) rfl ?_
          refine KV (R_assign rfl) rfl ?_
          refine K_nil ?_
          refine Q_nextD (i + 1, Hp, a80, k80, (cells.take (at_ * 3) ++ [.int .i64 a.rules[i].sym, .slice xa a.rules[i].args.length xcp, .int .i64 a.rules[i].to]) ++ cells.drop (at_ * 3)) ⟨hi', hV.trans (hU2.trans hp), by rw [sortR_take hi', hins, hnl]; exact hrow.sl, by rw [sortR_take hi', hins, hcat]; exact (((hC.take at_).imp fun _ _ h => h.mono (hU2.trans hp)).snoc ((RepR.of_rule hsr hsym hto hxl).mono (hU2.trans hp)) rfl).append ((hC.drop at_).imp fun _ _ h => h.mono (hU2.trans hp)), by rw [sortR_take hi', hins, hnl]; exact hzc⟩ (by (try dsimp only); omega) ⟨rfl, trivial⟩ rfl (by dsimp only; rw [sortR_take hi', hins, hnl]; rfl) rfl
      ·
        intro h47
        have hU2 := hVU
        have hins : insR a.rules[i] (sortR (a.rules.take i)) = (sortR (a.rules.take i)).take at_ ++ a.rules[i] :: (sortR (a.rules.take i)).drop at_ := by rw [insR_at hat hlt hstop, if_neg (by rintro ⟨h, _⟩; omega)]
        refine D_skip rfl rfl ?_
        refine D_skip rfl rfl ?_
        refine D_skip rfl rfl ?_
        refine D_skip rfl rfl ?_
        refine D_skip rfl rfl ?_
        refine D_skip rfl rfl ?_
        refine D_skip rfl rfl ?_
        refine D_skip rfl rfl ?_
        refine D_skip rfl rfl ?_
        refine D_skip rfl rfl ?_
        refine D_skip rfl rfl ?_
        refine D_skip rfl rfl ?_
        refine D_skip rfl rfl ?_
        refine D_skip rfl rfl ?_
        refine D_val rfl rfl rfl (R_pickF rfl rfl) ?_
        refine D_done ?_
        refine Q_then ?_
        refine K_ifF rfl ?_
        refine K_skip ?_
        refine Q_then ?_
        refine K_regionD (fin := true) (R := [1, 2, 3, 4, 6, 7, 8, 9, 10, 13, 14, 15, 16, 0, 5, 11, 12, 17, 18, 19]) (by kernel_rfl) mixed (.cons_cons _ (.cons_cons _ (.cons_cons _ (List.nil_sublist _)))) ?_
        refine D_val rfl rfl rfl (R_fieldAddr 2 fd42_2 rfl) ?_
        refine D_val rfl rfl rfl (R_loadO ty40 0 rfl rfl rfl rfl (fun _ => rfl) rfl) ?_
        refine D_val rfl rfl rfl (R_move rfl) ?_
        refine D_val rfl rfl rfl (R_sliceHi sl40 ty100 rfl rfl (Nat.le_trans hat hoc)) ?_
        refine D_val rfl rfl rfl (R_fieldAddr 2 fd42_2 rfl) ?_
        refine D_val rfl rfl rfl (R_loadO ty40 2 rfl rfl rfl rfl (fun _ => rfl) rfl) ?_
        refine D_val rfl rfl rfl (R_move rfl) ?_
        refine D_val rfl rfl rfl (R_indexN sl40 ty100 rfl rfl (by omega)) ?_
        refine D_val rfl rfl rfl (R_loadH ty100 rfl (hrc.mono hU2) rfl (fun e => by cases e) rfl) ?_
        refine D_val rfl rfl rfl (R_fieldAddr 2 fd42_2 rfl) ?_
        refine D_val rfl rfl rfl (R_loadO ty40 0 rfl rfl rfl rfl (fun _ => rfl) rfl) ?_
        refine D_val rfl rfl rfl (R_move rfl) ?_
        refine D_val rfl rfl rfl (R_sliceLo sl40 ty100 rfl rfl hat) ?_
        refine D_alloc rfl rfl rfl (A_buildSlice (vs := []) sl40 ty100 z100 rfl rfl (by simp) (by simp) rfl (by decide)) fun b63 => ?_
        have hcl3 : (cells.take (at_ * 3)).length = at_ * 3 := by rw [List.length_take, hcl]; omega
        refine D_append0 0 ap40 sl40 rfl rfl rfl rfl rfl ⟨⟨0, rfl⟩, ⟨1, rfl⟩, ⟨2, rfl⟩, trivial⟩ ((hS.mono hU2).hi hat hoc) hcl3 ((hC.take at_).oneCell fun _ _ h => h.one) ⟨by omega, by omega⟩ fun a68 k68 => ?_

        refine D_alloc rfl rfl rfl (A_buildSlice (vs := [.agg #[.int .i64 a.rules[i].sym, .slice xa a.rules[i].args.length xcp, .int .i64 a.rules[i].to]]) sl40 ty100 z100 rfl rfl (by simp [Value.cells]) (by simp) rfl (by decide)) fun b74 => ?_
        refine D_append1 0 ap40 rfl rfl rfl rfl rfl rfl ⟨⟨0, rfl⟩, ⟨1, rfl⟩, ⟨2, rfl⟩, trivial⟩ rfl rfl ⟨by omega, by omega⟩ fun a75 k75 hn75 => ?_
        have hcl4 : (cells.drop (at_ * 3)).length = ((sortR (a.rules.take i)).length - at_) * 3 := by rw [List.length_drop, hcl, Nat.sub_mul]
        refine D_appendS 0 ap40 sl40 rfl rfl rfl rfl rfl ⟨⟨0, rfl⟩, ⟨1, rfl⟩, ⟨2, rfl⟩, trivial⟩ ((hS.mono hU2).lo hcl hat hoc) hcl4 ((hC.drop at_).oneCell fun _ _ h => h.one) ⟨by omega, by omega⟩ fun a80 k80 => ?_

        refine D_val rfl rfl rfl (R_fieldAddr 2 fd42_2 rfl) ?_
        refine D_lastStore ty40 1 rfl rfl rfl rfl rfl rfl rfl rfl ?_
        refine KQ_front 0 rfl ?_
        refine KQ_pubrowC rfl fun Hp hp hrow hzc => ?_
        obtain ⟨za, zc, hze, hzc⟩ := hzc
        cases hze
        have hnl : ((sortR (a.rules.take i)).take at_ ++ a.rules[i] :: (sortR (a.rules.take i)).drop at_).length = at_ + 1 + ((sortR (a.rules.take i)).length - at_) := by simp only [List.length_append, List.length_cons, List.length_take, List.length_drop]; omega
        have hcat : (sortR (a.rules.take i)).take at_ ++ a.rules[i] :: (sortR (a.rules.take i)).drop at_ = ((sortR (a.rules.take i)).take at_ ++ [a.rules[i]]) ++ (sortR (a.rules.take i)).drop at_ := by simp
        refine Q_block ?_
        refine Q_then ?_
        refine K_region ?_
        refine KV (R_move rfl) rfl ?_
        refine KV (R_add rfl rfl (by omega)) rfl ?_
        refine KV (R_assign rfl) rfl ?_
        refine K_nil ?_
        refine Q_nextD (i + 1, Hp, a80, k80, (cells.take (at_ * 3) ++ [.int .i64 a.rules[i].sym, .slice xa a.rules[i].args.length xcp, .int .i64 a.rules[i].to]) ++ cells.drop (at_ * 3)) ⟨hi', hV.trans (hU2.trans hp), by rw [sortR_take hi', hins, hnl]; exact hrow.sl, by rw [sortR_take hi', hins, hcat]; exact (((hC.take at_).imp fun _ _ h => h.mono (hU2.trans hp)).snoc ((RepR.of_rule hsr hsym hto hxl).mono (hU2.trans hp)) rfl).append ((hC.drop at_).imp fun _ _ h => h.mono (hU2.trans hp)), by rw [sortR_take hi', hins, hnl]; exact hzc⟩ (by (try dsimp only); omega) ⟨rfl, trivial⟩ rfl (by dsimp only; rw [sortR_take hi', hins, hnl]; rfl) rfl
  ·
    have hi' : i = a.rules.length := by omega
    subst hi'
    have ht0 : a.rules.take a.rules.length = a.rules := List.take_length
    rw [ht0] at hS hC hoc hln hcl ⊢
    obtain ⟨V0, hV0e⟩ : ∃ V0, V0 = V := ⟨_, rfl⟩
    subst hV0e
    have hV0 := hV
    refine K_exit ?_
    refine Q_then_exit ?_
    refine Q_then_exit ?_
    refine Q_block_exit ?_
    refine Q_then ?_
    refine K_seq ?_
    refine K_seq ?_
    refine K_region ?_
    refine KV (R_assign rfl) rfl ?_
    refine K_nil ?_
    refine Q_then ?_
    refine K_block ?_
    refine K_nilrow T3 1 ?_
    refine K_loopD (G := Nat × View × Value) [6, 82, 83, 84, 85, 86, 87, 88, 89, 90, 91, 92, 93, 94, 95, 96, 97] (fun g => [(6, .int .i64 (g.1 : Int))]) (fun hl g => ((hl.set 0 (row g.2.2 T3 1 (subL g.1 fun z => decide ((z : Int) ∈ a.final)).length (ints (subL g.1 fun z => decide ((z : Int) ∈ a.final))))).set 1 (blk b3 (.cells #[.slice ra a.ranks.length rcp, .int .i64 a.states, .slice oa (sortR a.rules).length oc, g.2.2] T42 (0, 0))))) (fun g => g.2.1) (fun g => (g.1 ≤ a.states.toNat) ∧ (VLe V0 g.2.1) ∧ (∃ ad cp, g.2.2 = .slice ad (subL g.1 fun z => decide ((z : Int) ∈ a.final)).length cp)) (fun g => a.states.toNat - g.1) (0, V0, nilS) ⟨Nat.zero_le _, VLe.refl _, none, 0, rfl⟩ ⟨rfl, trivial⟩ (by simp only [args0, Nat.reduceAdd, del, memN, beqN, Nat.reduceBEq, cond_true, cond_false]; rfl) rfl rfl ?_
    rintro ⟨s, V, w⟩ ⟨hs, hV2, hw⟩
    dsimp only at hs hV2 hw
    dsimp only [List.set, List.cons_append, List.nil_append]
    obtain ⟨wa, wcp, rfl⟩ := hw
    have hnl := subL_len s fun z => decide ((z : Int) ∈ a.final)
    refine K_seq ?_
    refine K_seq ?_
    refine K_region ?_
    refine KV (R_move rfl) rfl ?_
    refine KV (R_fieldAddr 1 fd42_1 rfl) rfl ?_
    refine KV (R_loadO ty3 3 rfl rfl rfl rfl (fun _ => rfl) rfl) rfl ?_
    refine KV (R_cmp rfl rfl rfl) rfl ?_
    refine K_nil ?_
    refine Q_then ?_
    refine K_if rfl (fun h85 => ?_) (fun h85 => ?_)
    ·
      have hs' : s < a.states.toNat := by omega
      refine K_skip ?_
      refine Q_then ?_
      refine K_seq ?_
      refine K_block ?_
      refine K_seq ?_
      refine K_region ?_
      refine KV (R_fieldAddr 3 fd42_3 rfl) rfl ?_
      refine KV (R_loadO ty25 3 rfl rfl rfl rfl (fun _ => rfl) rfl) rfl ?_
      refine KV (R_move rfl) rfl ?_
      refine K_call c62 rfl rfl (rhas_spec (s : Int) a.final _ V ((ha.mono (hV0.trans hV2)).f) hfl) ?_
      rintro _ U hU rfl
      refine K_nil ?_
      refine Q_then ?_
      refine K_if rfl (fun h91 => ?_) (fun h91 => ?_)
      ·
        refine K_region ?_
        refine KV (R_fieldAddr 3 fd42_3 rfl) rfl ?_
        refine KV (R_loadO ty25 1 rfl rfl rfl rfl (fun _ => rfl) rfl) rfl ?_
        refine KV (R_move rfl) rfl ?_
        refine KA (A_buildSlice (vs := [.int .i64 (s : Int)]) sl25 ty3 z3 rfl rfl (by simp [Value.cells]) (by simp) rfl (by decide)) rfl fun b95 => ?_
        refine K_append1 0 ap25 rfl rfl rfl rfl rfl rfl ⟨by omega, by omega⟩ rfl fun a96 k96 hn96 => ?_
        refine KV (R_fieldAddr 3 fd42_3 rfl) rfl ?_
        refine K_store ty25 1 rfl rfl rfl rfl rfl rfl ?_
        refine K_nil ?_
        refine Q_block ?_
        refine Q_then ?_
        refine K_region ?_
        refine KV (R_move rfl) rfl ?_
        refine KV (R_add rfl rfl (by omega)) rfl ?_
        refine KV (R_assign rfl) rfl ?_
        refine K_nil ?_
        refine Q_nextD (s + 1, U, .slice a96 ((subL s fun z => decide ((z : Int) ∈ a.final)).length + 1) k96) ⟨hs', hV2.trans hU, _, _, by rw [subL_yes (p := fun (z : Nat) => decide ((z : Int) ∈ a.final)) (decide_eq_true h91), List.length_append]; rfl⟩ (by (try dsimp only); omega) ⟨rfl, trivial⟩ rfl (by dsimp only; rw [subL_yes (p := fun (z : Nat) => decide ((z : Int) ∈ a.final)) (decide_eq_true h91), List.length_append, ints_snoc]; rfl) rfl
      ·
        refine K_skip ?_
        refine Q_block ?_
        refine Q_then ?_
        refine K_region ?_
        refine KV (R_move rfl) rfl ?_
        refine KV (R_add rfl rfl (by omega)) rfl ?_
        refine KV (R_assign rfl) rfl ?_
        refine K_nil ?_
        refine Q_nextD (s + 1, U, .slice wa (subL s fun z => decide ((z : Int) ∈ a.final)).length wcp) ⟨hs', hV2.trans hU, _, _, by rw [subL_no (p := fun (z : Nat) => decide ((z : Int) ∈ a.final)) (decide_eq_false h91)]⟩ (by (try dsimp only); omega) ⟨rfl, trivial⟩ rfl (by dsimp only; rw [subL_no (p := fun (z : Nat) => decide ((z : Int) ∈ a.final)) (decide_eq_false h91)]) rfl
    ·
      have hs' : s = a.states.toNat := by omega
      refine K_exit ?_
      refine Q_then_exit ?_
      refine Q_then_exit ?_
      refine Q_block_exit ?_
      refine Q_then ?_
      refine K_seq ?_
      refine K_region ?_
      refine KV (R_loadO ty42 1 rfl rfl rfl rfl (fun e => by cases e) rfl) rfl ?_
      refine K_store ty42 2 rfl rfl rfl rfl rfl rfl ?_
      refine K_nil ?_
      refine Q_then ?_
      refine K_ret ?_
      subst hs'
      refine KQ_pubrow rfl fun Hp hp hrow => ?_
      refine results_gen (rs := [.cell 2 25]) (vs := [_]) rfl ⟨⟨_, _, _, _, _, _, 1, rfl, rfl, ty42, (fun e => by cases e), rfl, rfl⟩, trivial⟩ ?_
      refine ⟨_, _, _, rfl, ha.r.mono (hV0.trans (hV2.trans hp)), ⟨cells, hS.mono (hV2.trans hp), hC.imp fun _ _ h => h.mono (hV2.trans hp)⟩, ⟨hrow.sl, ?_⟩, ha.s, hrl, Nat.le_trans (sortR_len _) hul, Nat.le_trans (subL_len _ _) (by omega)⟩
      intro x hx
      obtain ⟨y, hy, rfl⟩ := List.mem_map.1 hx
      have := List.mem_range.1 (List.mem_filter.1 hy).1
      simp only [i64ok]; omega
end Go.Proofs.X

namespace Go.Proofs.X
open Go Pal Go.Proofs
attribute [local irreducible] Pal.KO Pal.KC Pal.KQ Pal.KD

theorem clone25o_spec (p : HL) (xs : List Int) (v : Value) (H : View) (hrd : Rd H p v xs.length (ints xs)) (hl : xs.length ≤ 1099511627776) : SatO Tryz.prog F65 #[v] H p (fun w _ q => q = row w T3 1 xs.length (ints xs) :: p) := by
  obtain ⟨a, cp, rfl, hsh⟩ := hrd.sh
  refine enterO (n := 8) (args := [.slice a xs.length cp]) Tryz.func87 rfl rfl rfl fun w0 => ?_
  refine K_seq ?_
  refine K_region ?_
  refine KV (R_assign rfl) rfl ?_
  refine K_nil ?_
  refine Q_then ?_
  refine K_seq ?_
  refine K_seq ?_
  refine K_region ?_
  refine KV (R_move rfl) rfl ?_
  refine KV (R_sliceNil sl25 rfl rfl) rfl ?_
  refine K_nil ?_
  refine Q_then ?_
  cases a with
  | none =>
    have hx0 : xs = [] := by
      rcases hsh with h3 | ⟨b, off, h3⟩
      · exact List.eq_nil_of_length_eq_zero h3
      · cases h3
    subst hx0
    refine K_ifT rfl ?_
    refine K_seq ?_
    refine K_region ?_
    refine KV (R_assign rfl) rfl ?_
    refine K_nil ?_
    refine Q_then ?_
    refine K_ret ?_
    refine Q_then_ret ?_
    refine KQ_nilrow T3 1 ?_
    refine results_gen (rs := [.tmp 2]) (vs := [_]) rfl ⟨rfl, trivial⟩ ?_
    rfl
  | some aa =>
    refine K_ifF rfl ?_
    refine K_skip ?_
    refine Q_then ?_
    refine K_seq ?_
    refine K_region ?_
    refine KA (A_buildSlice (vs := []) sl25 ty3 z3 rfl rfl (by simp) (by simp) rfl (by decide)) rfl fun b5 => ?_
    refine KV (R_move rfl) rfl ?_
    refine K_appendRd0 (p := p) (r := []) ap25 sl25 rfl rfl (by rw [List.append_nil]; exact List.Perm.refl _) hrd (by simp [ints]) (ints_one _) ⟨by omega, by omega⟩ rfl fun a7 k7 => ?_
    refine KV (R_assign rfl) rfl ?_
    refine K_nil ?_
    refine Q_then ?_
    refine K_ret ?_
    refine results_gen (rs := [.tmp 2]) (vs := [_]) rfl ⟨rfl, trivial⟩ ?_
    rw [List.append_nil]; rfl
end Go.Proofs.X

namespace Go.Proofs.X
open Go Pal Go.Proofs
attribute [local irreducible] Pal.KO Pal.KC Pal.KQ Pal.KD
theorem z25 : zeroOk Tryz.prog T25 (.slice none 0 0) := .of (by kernel_rfl)
theorem z54 : zeroOk Tryz.prog T54 (.agg #[.slice none 0 0, .slice none 0 0, .slice none 0 0]) := .of (by kernel_rfl)
theorem pl54 : placesOk Tryz.prog T54 [(0, 1), (1, 1), (2, 1)] := ⟨_, Tryz.underlying59, by kernel_rfl⟩
theorem c45 : callable Tryz.prog F45 = true := by kernel_rfl
theorem ap44 : App Tryz.prog T44 T25 1 24 := .of sl44 (by kernel_rfl)
end Go.Proofs.X

namespace Go.Proofs.X
open Go Pal Go.Proofs
attribute [local irreducible] Pal.KO Pal.KC Pal.KQ Pal.KD
theorem c2068 : callable Tryz.prog F2068 = true := by kernel_rfl
theorem c2071 : callable Tryz.prog F2071 = true := by kernel_rfl
theorem c2089 : callable Tryz.prog F2089 = true := by kernel_rfl
theorem isNaN_spec (x : Int) (H : View) : Sat Tryz.prog F2089 #[.int .i64 x] H (fun r _ => r = .bool false) := by
  refine enterO (n := 6) (args := [.int .i64 x]) Tryz.func102 rfl rfl rfl fun w0 => ?_
  refine K_seq ?_
  refine K_region ?_
  refine KV (R_assign rfl) rfl ?_
  refine K_nil ?_
  refine Q_then ?_
  refine K_seq ?_
  refine K_region ?_
  refine KV (R_move rfl) rfl ?_
  refine KV (R_move rfl) rfl ?_
  refine KV (R_cmp rfl rfl rfl) rfl ?_
  refine KV (R_assign rfl) rfl ?_
  refine K_nil ?_
  refine Q_then ?_
  refine K_ret ?_
  refine results_gen (rs := [.tmp 2]) (vs := [_]) rfl ⟨rfl, trivial⟩ ?_
  simp [tupV]

theorem ccmp_spec (x y : Int) (H : View) : Sat Tryz.prog F2071 #[.int .i64 x, .int .i64 y] H (fun r _ => r = .int .i64 (if x < y then -1 else if y < x then 1 else 0)) := by
  refine enterO (n := 20) (args := [.int .i64 x, .int .i64 y]) Tryz.func67 rfl rfl rfl fun w0 => ?_
  refine K_seq ?_
  refine K_region ?_
  refine KV (R_assign rfl) rfl ?_
  refine K_nil ?_
  refine Q_then ?_
  refine K_seq ?_
  refine K_region ?_
  refine KV (R_move rfl) rfl ?_
  refine K_call c2089 rfl rfl (isNaN_spec x H) ?_
  rintro _ V1 hv1 rfl
  refine KV (R_assign rfl) rfl ?_
  refine K_nil ?_
  refine Q_then ?_
  refine K_seq ?_
  refine K_region ?_
  refine KV (R_move rfl) rfl ?_
  refine K_call c2089 rfl rfl (isNaN_spec y V1) ?_
  rintro _ V2 hv2 rfl
  refine KV (R_assign rfl) rfl ?_
  refine K_nil ?_
  refine Q_then ?_
  refine K_seq ?_
  refine K_seq ?_
  refine K_region ?_
  refine KV (R_move rfl) rfl ?_
  refine K_nil ?_
  refine Q_then ?_
  refine K_ifB rfl (fun h11 => ?_) (fun h11 => ?_)
  ·
    cases h11
  ·
    refine K_skip ?_
    refine Q_then ?_
    refine K_seq ?_
    refine K_seq ?_
    refine K_region ?_
    refine KV (R_move rfl) rfl ?_
    refine K_nil ?_
    refine Q_then ?_
    refine K_ifB rfl (fun h13 => ?_) (fun h13 => ?_)
    ·
      cases h13
    ·
      refine K_skip ?_
      refine Q_then ?_
      refine K_seq ?_
      refine K_seq ?_
      refine K_region ?_
      refine KV (R_move rfl) rfl ?_
      refine KV (R_move rfl) rfl ?_
      refine KV (R_cmp rfl rfl rfl) rfl ?_
      refine K_nil ?_
      refine Q_then ?_
      refine K_if rfl (fun h16 => ?_) (fun h16 => ?_)
      ·
        refine K_seq ?_
        refine K_region ?_
        refine KV (R_assign rfl) rfl ?_
        refine K_nil ?_
        refine Q_then ?_
        refine K_ret ?_
        refine Q_then_ret ?_
        refine results_gen (rs := [.tmp 4]) (vs := [_]) rfl ⟨rfl, trivial⟩ ?_
        rw [if_pos h16]; rfl
      ·
        refine K_skip ?_
        refine Q_then ?_
        refine K_seq ?_
        refine K_seq ?_
        refine K_region ?_
        refine KV (R_move rfl) rfl ?_
        refine KV (R_move rfl) rfl ?_
        refine KV (R_cmp rfl rfl rfl) rfl ?_
        refine K_nil ?_
        refine Q_then ?_
        refine K_if rfl (fun h19 => ?_) (fun h19 => ?_)
        ·
          refine K_seq ?_
          refine K_region ?_
          refine KV (R_assign rfl) rfl ?_
          refine K_nil ?_
          refine Q_then ?_
          refine K_ret ?_
          refine Q_then_ret ?_
          refine results_gen (rs := [.tmp 4]) (vs := [_]) rfl ⟨rfl, trivial⟩ ?_
          rw [if_neg h16, if_pos (by omega)]; rfl
        ·
          refine K_skip ?_
          refine Q_then ?_
          refine K_seq ?_
          refine K_region ?_
          refine KV (R_assign rfl) rfl ?_
          refine K_nil ?_
          refine Q_then ?_
          refine K_ret ?_
          refine results_gen (rs := [.tmp 4]) (vs := [_]) rfl ⟨rfl, trivial⟩ ?_
          rw [if_neg h16, if_neg (by omega)]; rfl

theorem indexI_spec (y : Int) (xs : List Int) (v : Value) (H : View) (hv : SI H v xs) (hl : xs.length ≤ 1099511627776) : Sat Tryz.prog F2068 #[v, .int .i64 y] H (fun r _ => ∃ i : Int, r = .int .i64 i ∧ (0 ≤ i ↔ y ∈ xs)) := by
  obtain ⟨a, cp, rfl⟩ := hv.shape
  refine enterO (n := 19) (args := [.slice a xs.length cp, .int .i64 y]) Tryz.func92 rfl rfl rfl fun w0 => ?_
  refine K_seq ?_
  refine K_region ?_
  refine KV (R_assign rfl) rfl ?_
  refine K_nil ?_
  refine Q_then ?_
  refine K_seq ?_
  refine K_seq ?_
  refine K_region ?_
  refine KV (R_move rfl) rfl ?_
  refine KV (R_len sl25 rfl) rfl ?_
  refine KV (R_move rfl) rfl ?_
  refine K_nil ?_
  refine Q_then ?_
  refine K_block ?_
  refine K_loopD (G := Nat) [4, 5, 8, 9, 10, 11, 12, 13, 14, 15, 16, 17, 18] (fun g => [(8, .int .i64 (g : Int))]) (fun hl g => hl) (fun g => H) (fun g => (g ≤ xs.length) ∧ (∀ j (h : j < xs.length), j < g → xs[j] ≠ y)) (fun g => xs.length - g) 0 ⟨Nat.zero_le _, fun j _ h => by simp at h⟩ ⟨rfl, trivial⟩ (by simp only [args0, Nat.reduceAdd, del, memN, beqN, Nat.reduceBEq, cond_true, cond_false]; rfl) rfl rfl ?_
  rintro k ⟨hk, hno⟩
  try dsimp only at hk
  try dsimp only at hno
  dsimp only [List.set, List.cons_append, List.nil_append]
  refine K_seq ?_
  refine K_region ?_
  refine KV (R_cmp rfl rfl rfl) rfl ?_
  refine K_nil ?_
  refine Q_then ?_
  refine K_seq ?_
  refine K_if rfl (fun h9 => ?_) (fun h9 => ?_)
  ·
    have hk' : k < xs.length := by omega
    obtain ⟨tb, to_, hte, hta⟩ := hv.get hk'
    cases hte
    refine K_skip ?_
    refine Q_then ?_
    refine K_seq ?_
    refine K_block ?_
    refine K_seq ?_
    refine K_region ?_
    refine KV (R_move rfl) rfl ?_
    refine KV (R_assign rfl) rfl ?_
    refine K_nil ?_
    refine Q_then ?_
    refine K_seq ?_
    refine K_region ?_
    refine KV (R_move rfl) rfl ?_
    refine KV (R_move rfl) rfl ?_
    refine KV (R_move rfl) rfl ?_
    refine KV (R_indexN sl25 ty3 rfl rfl (by omega)) rfl ?_
    refine KV (R_loadH ty3 rfl (hta) rfl (fun _ => rfl) rfl) rfl ?_
    refine KV (R_cmp rfl rfl rfl) rfl ?_
    refine K_nil ?_
    refine Q_then ?_
    refine K_if rfl (fun h16 => ?_) (fun h16 => ?_)
    ·
      refine K_seq ?_
      refine K_region ?_
      refine KV (R_move rfl) rfl ?_
      refine KV (R_assign rfl) rfl ?_
      refine K_nil ?_
      refine Q_then ?_
      refine K_ret ?_
      refine Q_block_ret ?_
      refine Q_then_ret ?_
      refine Q_then_ret ?_
      refine Q_block_ret ?_
      refine Q_then_ret ?_
      refine results_gen (rs := [.tmp 4]) (vs := [_]) rfl ⟨rfl, trivial⟩ ?_
      refine ⟨k, rfl, fun _ => ?_, fun _ => by omega⟩
      have e : y = xs[k] := by omega
      rw [e]; exact List.getElem_mem hk'
    ·
      have hno2 : ∀ j (h : j < xs.length), j < k + 1 → xs[j] ≠ y := by
        intro j h hj
        by_cases e : j = k
        · subst e; omega
        · exact hno j h (by omega)
      refine K_skip ?_
      refine Q_block ?_
      refine Q_then ?_
      refine K_region ?_
      refine KV (R_add rfl rfl (by omega)) rfl ?_
      refine KV (R_move rfl) rfl ?_
      refine K_nil ?_
      refine Q_nextD (k + 1) ⟨hk', hno2⟩ (by (try dsimp only); omega) ⟨rfl, trivial⟩ rfl rfl rfl
  ·
    have hk' : k = xs.length := by omega
    refine K_exit ?_
    refine Q_then_exit ?_
    refine Q_then_exit ?_
    refine Q_block_exit ?_
    refine Q_then ?_
    refine K_seq ?_
    refine K_region ?_
    refine KV (R_assign rfl) rfl ?_
    refine K_nil ?_
    refine Q_then ?_
    refine K_ret ?_
    refine results_gen (rs := [.tmp 4]) (vs := [_]) rfl ⟨rfl, trivial⟩ ?_
    refine ⟨-1, rfl, fun h => by omega, fun h => ?_⟩
    obtain ⟨j, hj, e⟩ := List.getElem_of_mem h
    exact absurd e (hno j hj (by omega))

theorem containsI_spec (y : Int) (xs : List Int) (v : Value) (H : View) (hv : SI H v xs) (hl : xs.length ≤ 1099511627776) : Sat Tryz.prog F2041 #[v, .int .i64 y] H (fun r _ => r = .bool (decide (y ∈ xs))) := by
  obtain ⟨a, cp, rfl⟩ := hv.shape
  refine enterO (n := 9) (args := [.slice a xs.length cp, .int .i64 y]) Tryz.func46 rfl rfl rfl fun w0 => ?_
  refine K_seq ?_
  refine K_region ?_
  refine KV (R_assign rfl) rfl ?_
  refine K_nil ?_
  refine Q_then ?_
  refine K_seq ?_
  refine K_region ?_
  refine KV (R_move rfl) rfl ?_
  refine KV (R_move rfl) rfl ?_
  refine K_call c2068 rfl rfl (indexI_spec y xs _ H hv hl) ?_
  rintro _ V1 hv1 ⟨i, rfl, hi⟩
  refine KV (R_cmp rfl rfl rfl) rfl ?_
  refine KV (R_assign rfl) rfl ?_
  refine K_nil ?_
  refine Q_then ?_
  refine K_ret ?_
  refine results_gen (rs := [.tmp 4]) (vs := [_]) rfl ⟨rfl, trivial⟩ ?_
  refine congrArg Value.bool ?_
  by_cases h : 0 ≤ i
  · rw [decide_eq_true h]; exact (decide_eq_true (hi.1 h)).symm
  · rw [decide_eq_false h]; exact (decide_eq_false fun h2 => h (hi.2 h2)).symm

theorem compareI_spec (xs ys : List Int) (v w : Value) (H : View) (hv : SI H v xs) (hw : SI H w ys) (hx : xs.length ≤ 1099511627776) (hy : ys.length ≤ 1099511627776) : Sat Tryz.prog F2044 #[v, w] H (fun r _ => r = .int .i64 (cmpL xs ys)) := by
  obtain ⟨xa, xcp, rfl⟩ := hv.shape
  obtain ⟨ya, ycp, rfl⟩ := hw.shape
  refine enterO (n := 36) (args := [.slice xa xs.length xcp, .slice ya ys.length ycp]) Tryz.func157 rfl rfl rfl fun w0 => ?_
  refine K_seq ?_
  refine K_region ?_
  refine KV (R_assign rfl) rfl ?_
  refine K_nil ?_
  refine Q_then ?_
  refine K_seq ?_
  refine K_seq ?_
  refine K_region ?_
  refine KV (R_move rfl) rfl ?_
  refine KV (R_len sl25 rfl) rfl ?_
  refine KV (R_move rfl) rfl ?_
  refine K_nil ?_
  refine Q_then ?_
  refine K_block ?_
  refine K_loopD (G := Nat × View) [4, 5, 6, 7, 8, 11, 12, 13, 14, 15, 16, 17, 18, 19, 20, 21, 22, 23, 24, 25, 26, 27, 28, 29, 30] (fun g => [(11, .int .i64 (g.1 : Int))]) (fun hl g => hl) (fun g => g.2) (fun g => (g.1 ≤ xs.length) ∧ (g.1 ≤ ys.length) ∧ (VLe H g.2) ∧ (cmpL xs ys = cmpL (xs.drop g.1) (ys.drop g.1))) (fun g => xs.length - g.1) (0, H) ⟨Nat.zero_le _, Nat.zero_le _, VLe.refl _, rfl⟩ ⟨rfl, trivial⟩ (by simp only [args0, Nat.reduceAdd, del, memN, beqN, Nat.reduceBEq, cond_true, cond_false]; rfl) rfl rfl ?_
  rintro ⟨k, V⟩ ⟨hk1, hk2, hV, hc⟩
  dsimp only at hk1 hk2 hV hc
  dsimp only [List.set, List.cons_append, List.nil_append]
  refine K_seq ?_
  refine K_region ?_
  refine KV (R_cmp rfl rfl rfl) rfl ?_
  refine K_nil ?_
  refine Q_then ?_
  refine K_seq ?_
  refine K_if rfl (fun h12 => ?_) (fun h12 => ?_)
  ·
    have hx1 : k < xs.length := by omega
    obtain ⟨xb, xo, hxe, hxa⟩ := (hv.mono hV).get hx1
    cases hxe
    refine K_skip ?_
    refine Q_then ?_
    refine K_seq ?_
    refine K_block ?_
    refine K_seq ?_
    refine K_region ?_
    refine KV (R_move rfl) rfl ?_
    refine KV (R_indexN sl25 ty3 rfl rfl (by omega)) rfl ?_
    refine KV (R_loadH ty3 rfl (hxa) rfl (fun _ => rfl) rfl) rfl ?_
    refine KV (R_assign rfl) rfl ?_
    refine KV (R_assign rfl) rfl ?_
    refine K_nil ?_
    refine Q_then ?_
    refine K_seq ?_
    refine K_seq ?_
    refine K_region ?_
    refine KV (R_move rfl) rfl ?_
    refine KV (R_move rfl) rfl ?_
    refine KV (R_len sl25 rfl) rfl ?_
    refine KV (R_cmp rfl rfl rfl) rfl ?_
    refine K_nil ?_
    refine Q_then ?_
    refine K_if rfl (fun h19 => ?_) (fun h19 => ?_)
    ·
      have hend := cmpL_end hk1 hk2 (.inr (by omega))
      refine K_seq ?_
      refine K_region ?_
      refine KV (R_assign rfl) rfl ?_
      refine K_nil ?_
      refine Q_then ?_
      refine K_ret ?_
      refine Q_then_ret ?_
      refine Q_block_ret ?_
      refine Q_then_ret ?_
      refine Q_then_ret ?_
      refine Q_block_ret ?_
      refine Q_then_ret ?_
      refine results_gen (rs := [.tmp 4]) (vs := [_]) rfl ⟨rfl, trivial⟩ ?_
      rw [hc, hend, if_neg (by omega), if_pos (by omega)]; rfl
    ·
      have hy1 : k < ys.length := by omega
      obtain ⟨yb, yo, hye, hya⟩ := (hw.mono hV).get hy1
      cases hye
      have hcx : cmpL (xs.drop k) (ys.drop k) = if xs[k] < ys[k] then -1 else if ys[k] < xs[k] then 1 else cmpL (xs.drop (k + 1)) (ys.drop (k + 1)) := by
        rw [List.drop_eq_getElem_cons hx1, List.drop_eq_getElem_cons hy1]; rfl
      refine K_skip ?_
      refine Q_then ?_
      refine K_seq ?_
      refine K_region ?_
      refine KV (R_move rfl) rfl ?_
      refine KV (R_move rfl) rfl ?_
      refine KV (R_indexN sl25 ty3 rfl rfl (by omega)) rfl ?_
      refine KV (R_loadH ty3 rfl (hya) rfl (fun _ => rfl) rfl) rfl ?_
      refine KV (R_assign rfl) rfl ?_
      refine K_nil ?_
      refine Q_then ?_
      refine K_seq ?_
      refine K_region ?_
      refine KV (R_move rfl) rfl ?_
      refine KV (R_move rfl) rfl ?_
      refine K_call c2071 rfl rfl (ccmp_spec xs[k] ys[k] V) ?_
      rintro _ V1 hv1 rfl
      refine KV (R_assign rfl) rfl ?_
      refine K_nil ?_
      refine Q_then ?_
      refine K_seq ?_
      refine K_region ?_
      refine KV (R_move rfl) rfl ?_
      refine KV (R_cmp rfl rfl rfl) rfl ?_
      refine K_nil ?_
      refine Q_then ?_
      refine K_if rfl (fun h28 => ?_) (fun h28 => ?_)
      ·
        refine K_seq ?_
        refine K_region ?_
        refine KV (R_move rfl) rfl ?_
        refine KV (R_assign rfl) rfl ?_
        refine K_nil ?_
        refine Q_then ?_
        refine K_ret ?_
        refine Q_block_ret ?_
        refine Q_then_ret ?_
        refine Q_then_ret ?_
        refine Q_block_ret ?_
        refine Q_then_ret ?_
        refine results_gen (rs := [.tmp 4]) (vs := [_]) rfl ⟨rfl, trivial⟩ ?_
        rw [hc, hcx]
        by_cases a1 : xs[k] < ys[k]
        · rw [if_pos a1, if_pos a1]; rfl
        · by_cases a2 : ys[k] < xs[k]
          · rw [if_neg a1, if_neg a1, if_pos a2, if_pos a2]; rfl
          · rw [if_neg a1, if_neg a2] at h28; exact absurd rfl h28
      ·
        have hn1 : ¬ xs[k] < ys[k] := by intro h; rw [if_pos h] at h28; exact h28 (by decide)
        have hn2 : ¬ ys[k] < xs[k] := by intro h; rw [if_neg hn1, if_pos h] at h28; exact h28 (by decide)
        refine K_skip ?_
        refine Q_block ?_
        refine Q_then ?_
        refine K_region ?_
        refine KV (R_add rfl rfl (by omega)) rfl ?_
        refine KV (R_move rfl) rfl ?_
        refine K_nil ?_
        refine Q_nextD (k + 1, V1) ⟨hx1, hy1, hV.trans hv1, by rw [hc, hcx, if_neg hn1, if_neg hn2]⟩ (by (try dsimp only); omega) ⟨rfl, trivial⟩ rfl rfl rfl
  ·
    have hend := cmpL_end hk1 hk2 (.inl (by omega))
    refine K_exit ?_
    refine Q_then_exit ?_
    refine Q_then_exit ?_
    refine Q_block_exit ?_
    refine Q_then ?_
    refine K_seq ?_
    refine K_seq ?_
    refine K_region ?_
    refine KV (R_move rfl) rfl ?_
    refine KV (R_len sl25 rfl) rfl ?_
    refine KV (R_move rfl) rfl ?_
    refine KV (R_len sl25 rfl) rfl ?_
    refine KV (R_cmp rfl rfl rfl) rfl ?_
    refine K_nil ?_
    refine Q_then ?_
    refine K_if rfl (fun h35 => ?_) (fun h35 => ?_)
    ·
      refine K_seq ?_
      refine K_region ?_
      refine KV (R_assign rfl) rfl ?_
      refine K_nil ?_
      refine Q_then ?_
      refine K_ret ?_
      refine Q_then_ret ?_
      refine results_gen (rs := [.tmp 4]) (vs := [_]) rfl ⟨rfl, trivial⟩ ?_
      rw [hc, hend, if_pos (by omega)]; rfl
    ·
      refine K_skip ?_
      refine Q_then ?_
      refine K_seq ?_
      refine K_region ?_
      refine KV (R_assign rfl) rfl ?_
      refine K_nil ?_
      refine Q_then ?_
      refine K_ret ?_
      refine results_gen (rs := [.tmp 4]) (vs := [_]) rfl ⟨rfl, trivial⟩ ?_
      rw [hc, hend, if_neg (by omega), if_neg (by omega)]; rfl
end Go.Proofs.X

namespace Go.Proofs.X
open Go Pal Go.Proofs
attribute [local irreducible] Pal.KO Pal.KC Pal.KQ Pal.KD
theorem ty164 : Ty Tryz.prog T164 false 1 := .of (by kernel_rfl)
theorem ty2007 : Ty Tryz.prog T2007 false 1 := .of (by kernel_rfl)
theorem sl2007 : slcOk Tryz.prog T2007 T164 := by unfold slcOk; kernel_rfl
theorem fd2009_0 : fldOk Tryz.prog T2009 0 0 = true := by kernel_rfl
theorem c2046 : callable Tryz.prog F2046 = true := by kernel_rfl
theorem word_spec (ws : List Nat) (i : Nat) (v : Value) (H : View) (hv : UW H v ws) (hi : i ≤ 1099511627776) : Sat Tryz.prog F2064 #[.agg #[v], .int .i64 (i : Int)] H (fun r _ => r = .int .u64 ((ws.getD i 0 : Nat) : Int)) := by
  obtain ⟨a, cp, rfl⟩ := hv.shape
  have hok := hv.2
  refine enterO (n := 16) (args := [.agg #[.slice a ws.length cp], .int .i64 (i : Int)]) Tryz.func62 rfl rfl rfl fun w0 => ?_
  refine K_seq ?_
  refine K_region ?_
  refine KA (A_box rfl) rfl fun b2 => ?_
  refine KV (R_assign rfl) rfl ?_
  refine K_nil ?_
  refine Q_then ?_
  refine K_seq ?_
  refine K_seq ?_
  refine K_region ?_
  refine KV (R_move rfl) rfl ?_
  refine KV (R_fieldAddr 0 fd2009_0 rfl) rfl ?_
  refine KV (R_loadO ty2007 0 rfl rfl rfl rfl (fun _ => rfl) rfl) rfl ?_
  refine KV (R_len sl2007 rfl) rfl ?_
  refine KV (R_cmp rfl rfl rfl) rfl ?_
  refine K_nil ?_
  refine Q_then ?_
  refine K_if rfl (fun h9 => ?_) (fun h9 => ?_)
  ·
    refine K_seq ?_
    refine K_region ?_
    refine KV (R_assign rfl) rfl ?_
    refine K_nil ?_
    refine Q_then ?_
    refine K_ret ?_
    refine Q_then_ret ?_
    refine results_gen (rs := [.tmp 4]) (vs := [_]) rfl ⟨rfl, trivial⟩ ?_
    simp [tupV, List.getD, show ws.length ≤ i by omega]
  ·
    have hi2 : i < ws.length := by omega
    obtain ⟨b, off, hbe, hba⟩ := hv.get hi2
    cases hbe
    have hw := hok _ (List.getElem_mem hi2)
    refine K_skip ?_
    refine Q_then ?_
    refine K_seq ?_
    refine K_region ?_
    refine KV (R_fieldAddr 0 fd2009_0 rfl) rfl ?_
    refine KV (R_loadO ty2007 0 rfl rfl rfl rfl (fun _ => rfl) rfl) rfl ?_
    refine KV (R_move rfl) rfl ?_
    refine KV (R_indexN sl2007 ty164 rfl rfl (by omega)) rfl ?_
    refine KV (R_loadH ty164 rfl (hba) rfl (fun _ => rfl) rfl) rfl ?_
    refine KV (R_convII (by kernel_rfl) ⟨_, Tryz.underlying108⟩ rfl (IntWalk.u64_in ((ws[i] : Nat) : Int) (by omega))) rfl ?_
    refine KV (R_assign rfl) rfl ?_
    refine K_nil ?_
    refine Q_then ?_
    refine K_ret ?_
    refine results_gen (rs := [.tmp 4]) (vs := [_]) rfl ⟨rfl, trivial⟩ ?_
    simp [tupV, List.getD, hi2]

theorem eqU_spec (xs ys : List Nat) (v w : Value) (H : View) (hv : UW H v xs) (hw : UW H w ys) (hl : xs.length ≤ 1099511627776) : Sat Tryz.prog F2046 #[v, w] H (fun r _ => r = .bool (decide (xs = ys))) := by
  obtain ⟨a, cp, rfl⟩ := hv.shape
  obtain ⟨a2, cp2, rfl⟩ := hw.shape
  refine enterO (n := 26) (args := [.slice a xs.length cp, .slice a2 ys.length cp2]) Tryz.func58 rfl rfl rfl fun w0 => ?_
  refine K_seq ?_
  refine K_region ?_
  refine KV (R_assign rfl) rfl ?_
  refine K_nil ?_
  refine Q_then ?_
  refine K_seq ?_
  refine K_seq ?_
  refine K_region ?_
  refine KV (R_move rfl) rfl ?_
  refine KV (R_len sl2007 rfl) rfl ?_
  refine KV (R_move rfl) rfl ?_
  refine KV (R_len sl2007 rfl) rfl ?_
  refine KV (R_cmp rfl rfl rfl) rfl ?_
  refine K_nil ?_
  refine Q_then ?_
  refine K_if rfl (fun h10 => ?_) (fun h10 => ?_)
  ·
    refine K_seq ?_
    refine K_region ?_
    refine KV (R_assign rfl) rfl ?_
    refine K_nil ?_
    refine Q_then ?_
    refine K_ret ?_
    refine Q_then_ret ?_
    refine results_gen (rs := [.tmp 4]) (vs := [_]) rfl ⟨rfl, trivial⟩ ?_
    refine congrArg Value.bool (Eq.symm (decide_eq_false ?_))
    intro e; subst e; omega
  ·
    have hle : xs.length = ys.length := by omega
    refine K_skip ?_
    refine Q_then ?_
    refine K_seq ?_
    refine K_seq ?_
    refine K_region ?_
    refine KV (R_move rfl) rfl ?_
    refine KV (R_len sl2007 rfl) rfl ?_
    refine KV (R_move rfl) rfl ?_
    refine K_nil ?_
    refine Q_then ?_
    refine K_block ?_
    refine K_loopD (G := Nat) [4, 5, 13, 14, 15, 16, 17, 18, 19, 20, 21, 22, 23, 24, 25] (fun g => [(13, .int .i64 (g : Int))]) (fun hl g => hl) (fun g => H) (fun g => (g ≤ xs.length) ∧ (∀ j (h : j < xs.length) (h2 : j < ys.length), j < g → xs[j] = ys[j])) (fun g => xs.length - g) 0 ⟨Nat.zero_le _, fun j _ _ h => by simp at h⟩ ⟨rfl, trivial⟩ (by simp only [args0, Nat.reduceAdd, del, memN, beqN, Nat.reduceBEq, cond_true, cond_false]; rfl) rfl rfl ?_
    rintro k ⟨hk, hyes⟩
    try dsimp only at hk
    try dsimp only at hyes
    dsimp only [List.set, List.cons_append, List.nil_append]
    refine K_seq ?_
    refine K_region ?_
    refine KV (R_cmp rfl rfl rfl) rfl ?_
    refine K_nil ?_
    refine Q_then ?_
    refine K_seq ?_
    refine K_if rfl (fun h14 => ?_) (fun h14 => ?_)
    ·
      have hk' : k < xs.length := by omega
      obtain ⟨tb, to_, hte, hta⟩ := hv.get hk'
      cases hte
      obtain ⟨ub, uo, hue, htb⟩ := hw.get (show k < ys.length by omega)
      cases hue
      refine K_skip ?_
      refine Q_then ?_
      refine K_seq ?_
      refine K_block ?_
      refine K_seq ?_
      refine K_region ?_
      refine KV (R_move rfl) rfl ?_
      refine KV (R_assign rfl) rfl ?_
      refine K_nil ?_
      refine Q_then ?_
      refine K_seq ?_
      refine K_regionD (fin := false) (R := [0, 1, 2, 3, 4, 5, 6, 7, 8]) (by kernel_rfl) mixed (List.nil_sublist _) ?_
      refine D_val rfl rfl rfl (R_move rfl) ?_
      refine D_val rfl rfl rfl (R_move rfl) ?_
      refine D_val rfl rfl rfl (R_indexN sl2007 ty164 rfl rfl (by omega)) ?_
      refine D_val rfl rfl rfl (R_loadH ty164 rfl (hta) rfl (fun _ => rfl) rfl) ?_
      refine D_val rfl rfl rfl (R_move rfl) ?_
      refine D_val rfl rfl rfl (R_move rfl) ?_
      refine D_val rfl rfl rfl (R_indexN sl2007 ty164 rfl rfl (by omega)) ?_
      refine D_val rfl rfl rfl (R_loadH ty164 rfl (htb) rfl (fun _ => rfl) rfl) ?_
      refine D_val rfl rfl rfl (R_cmp rfl rfl rfl) ?_
      refine D_done ?_
      refine Q_then ?_
      refine K_if rfl (fun h24 => ?_) (fun h24 => ?_)
      ·
        refine K_seq ?_
        refine K_region ?_
        refine KV (R_assign rfl) rfl ?_
        refine K_nil ?_
        refine Q_then ?_
        refine K_ret ?_
        refine Q_block_ret ?_
        refine Q_then_ret ?_
        refine Q_then_ret ?_
        refine Q_block_ret ?_
        refine Q_then_ret ?_
        refine results_gen (rs := [.tmp 4]) (vs := [_]) rfl ⟨rfl, trivial⟩ ?_
        refine congrArg Value.bool (Eq.symm (decide_eq_false ?_))
        intro e; subst e; omega
      ·
        have hyes2 : ∀ j (h : j < xs.length) (h2 : j < ys.length), j < k + 1 → xs[j] = ys[j] := by
          intro j h h2 hj
          by_cases e : j = k
          · subst e; omega
          · exact hyes j h h2 (by omega)
        refine K_skip ?_
        refine Q_block ?_
        refine Q_then ?_
        refine K_region ?_
        refine KV (R_add rfl rfl (by omega)) rfl ?_
        refine KV (R_move rfl) rfl ?_
        refine K_nil ?_
        refine Q_nextD (k + 1) ⟨hk', hyes2⟩ (by (try dsimp only); omega) ⟨rfl, trivial⟩ rfl rfl rfl
    ·
      have hk' : k = xs.length := by omega
      refine K_exit ?_
      refine Q_then_exit ?_
      refine Q_then_exit ?_
      refine Q_block_exit ?_
      refine Q_then ?_
      refine K_seq ?_
      refine K_region ?_
      refine KV (R_assign rfl) rfl ?_
      refine K_nil ?_
      refine Q_then ?_
      refine K_ret ?_
      refine results_gen (rs := [.tmp 4]) (vs := [_]) rfl ⟨rfl, trivial⟩ ?_
      refine congrArg Value.bool (Eq.symm (decide_eq_true ?_))
      exact List.ext_getElem hle fun j h h2 => hyes j h h2 (by omega)

theorem eqN_spec (n m : Nat) (v w : Value) (H : View) (hv : RepN H v n) (hw : RepN H w m) (hl : n < 2 ^ 64) : Sat Tryz.prog F2018 #[.agg #[v], .agg #[w]] H (fun r _ => r = .bool (decide (n = m))) := by
  obtain ⟨xs, hx1, hx2, hx3⟩ := hv
  obtain ⟨ys, hy1, hy2, hy3⟩ := hw
  have hlen : xs.length ≤ 1099511627776 := by
    rcases Nat.lt_or_ge 2 xs.length with h | h
    · exfalso
      have hne : xs ≠ [] := by intro e; subst e; simp at h
      obtain ⟨us, y, rfl⟩ : ∃ us y, xs = us ++ [y] := ⟨xs.dropLast, xs.getLast hne, (List.dropLast_concat_getLast hne).symm⟩
      have hy0 : y ≠ 0 := by intro e; subst e; exact hx1.2 (by simp)
      rw [valW_snoc] at hx2
      have h2 : 4294967296 ^ 2 ≤ 4294967296 ^ us.length := Nat.pow_le_pow_right (by decide) (by simp at h; omega)
      have h3 : 4294967296 ^ us.length * 1 ≤ 4294967296 ^ us.length * y := Nat.mul_le_mul_left _ (by omega)
      omega
    · omega
  obtain ⟨a, cp, rfl⟩ := hx3.shape
  obtain ⟨a2, cp2, rfl⟩ := hy3.shape
  have heq : decide (xs = ys) = decide (n = m) := by
    by_cases e : xs = ys
    · subst e; rw [decide_eq_true rfl, decide_eq_true (by omega)]
    · rw [decide_eq_false e, decide_eq_false (fun h => e (hx1.uniq hy1 (by omega)))]
  refine enterO (n := 10) (args := [.agg #[.slice a xs.length cp], .agg #[.slice a2 ys.length cp2]]) Tryz.func25 rfl rfl rfl fun w0 => ?_
  refine K_seq ?_
  refine K_region ?_
  refine KA (A_box rfl) rfl fun b2 => ?_
  refine KA (A_box rfl) rfl fun b3 => ?_
  refine KV (R_assign rfl) rfl ?_
  refine K_nil ?_
  refine Q_then ?_
  refine K_seq ?_
  refine K_region ?_
  refine KV (R_fieldAddr 0 fd2009_0 rfl) rfl ?_
  refine KV (R_loadO ty2007 1 rfl rfl rfl rfl (fun _ => rfl) rfl) rfl ?_
  refine KV (R_fieldAddr 0 fd2009_0 rfl) rfl ?_
  refine KV (R_loadO ty2007 0 rfl rfl rfl rfl (fun _ => rfl) rfl) rfl ?_
  refine K_call c2046 rfl rfl (eqU_spec xs ys _ _ H hx3 hy3 hlen) ?_
  rintro _ V1 hv1 rfl
  refine KV (R_assign rfl) rfl ?_
  refine K_nil ?_
  refine Q_then ?_
  refine K_ret ?_
  refine results_gen (rs := [.tmp 4]) (vs := [_]) rfl ⟨rfl, trivial⟩ ?_
  exact congrArg Value.bool heq
end Go.Proofs.X

namespace Go.Proofs.X
open Go Pal Go.Proofs
attribute [local irreducible] Pal.KO Pal.KC Pal.KQ Pal.KD
theorem ty2009 : Ty Tryz.prog T2009 true 1 := .of (by kernel_rfl)
theorem z164 : zeroOk Tryz.prog T164 (.int .u32 0) := .of (by kernel_rfl)
theorem z2009 : zeroOk Tryz.prog T2009 (.agg #[.slice none 0 0]) := .of (by kernel_rfl)
theorem pl2009 : placesOk Tryz.prog T2009 [(0, 1)] := ⟨_, Tryz.underlying64, by kernel_rfl⟩
theorem c2047 : callable Tryz.prog F2047 = true := by kernel_rfl
theorem trimW_spec (ws : List Nat) (a : Option Addr) (cp : Nat) (H : View) (hv : UW H (.slice a ws.length cp) ws) (hc : ws.length ≤ cp) (hl : ws.length ≤ 1099511627776) : Sat Tryz.prog F2047 #[.slice a ws.length cp] H (fun r H' => ∃ xa k, r = .agg #[.slice xa k cp] ∧ RepN H' (.slice xa k cp) (valW ws)) := by
  have hok := hv.2
  refine enterO (n := 22) (args := [.slice a ws.length cp]) Tryz.func59 rfl rfl rfl fun w0 => ?_
  refine K_seq ?_
  refine K_region ?_
  refine KA (A_alloc z2009) rfl fun b2 => ?_
  refine K_nil ?_
  refine Q_then ?_
  refine K_seq ?_
  refine K_block ?_
  refine K_loopD (G := Nat × Option Addr) [0, 3, 4, 5, 6, 7, 8, 9, 10, 11, 12, 13, 14, 15, 16, 17, 18, 19] (fun g => [(0, .slice g.2 g.1 cp)]) (fun hl g => hl) (fun g => H) (fun g => (g.1 ≤ ws.length) ∧ (SlAt H (.slice g.2 g.1 cp) g.1 (words (ws.take g.1))) ∧ (∀ j (h : j < ws.length), g.1 ≤ j → ws[j] = 0)) (fun g => g.1) (ws.length, a) ⟨Nat.le_refl _, by rw [List.take_length]; exact hv.1, fun j h h2 => by omega⟩ ⟨rfl, trivial⟩ (by simp only [args0, Nat.reduceAdd, del, memN, beqN, Nat.reduceBEq, cond_true, cond_false]; rfl) rfl rfl ?_
  rintro ⟨k, xa⟩ ⟨hk, hs, hz⟩
  dsimp only at hk hs hz
  dsimp only [List.set, List.cons_append, List.nil_append]
  have htl : (ws.take k).length = k := by rw [List.length_take]; omega
  have hu : UW H (.slice xa k cp) (ws.take k) := ⟨by rw [htl]; exact hs, fun x hx => hok x (List.mem_of_mem_take hx)⟩
  refine K_seq ?_
  refine K_seq ?_
  refine K_region ?_
  refine KV (R_move rfl) rfl ?_
  refine KV (R_len sl2007 rfl) rfl ?_
  refine KV (R_cmp rfl rfl rfl) rfl ?_
  refine KV (R_move rfl) rfl ?_
  refine K_split ?_ ?_
  ·
    intro h6
    have hk0 : k - 1 < (ws.take k).length := by omega
    obtain ⟨tb, to_, hte, hta⟩ := hu.get hk0
    cases hte
    have e9 : ((k : Int) - 1).toNat = k - 1 := by omega
    have hta2 : At H tb (to_ + ((k : Int) - 1).toNat * 1) [.int .u32 (((ws.take k)[k - 1] : Nat) : Int)] := by rw [e9]; exact hta
    refine K_gyes rfl rfl ?_
    refine KV (R_move rfl) rfl ?_
    refine K_gyes rfl rfl ?_
    refine KV (R_move rfl) rfl ?_
    refine K_gyes rfl rfl ?_
    refine KV (R_len sl2007 rfl) rfl ?_
    refine K_gyes rfl rfl ?_
    refine KV (R_sub rfl rfl (by omega)) rfl ?_
    refine K_gyes rfl rfl ?_
    refine KV (R_index sl2007 ty164 rfl rfl ⟨by omega, by omega⟩) rfl ?_
    refine K_gyes rfl rfl ?_
    refine KV (R_loadH ty164 rfl (hta2) rfl (fun _ => rfl) rfl) rfl ?_
    refine K_gyes rfl rfl ?_
    refine KV (R_cmp rfl rfl rfl) rfl ?_
    refine KV (R_pickT rfl rfl) rfl ?_
    refine K_nil ?_
    refine Q_then ?_
    refine K_if rfl (fun h14 => ?_) (fun h14 => ?_)
    ·
      have hz0 : ws[k - 1]'(by omega) = 0 := by rw [List.getElem_take] at h14; omega
      have hwt : (words (ws.take k)).take (k - 1) = words (ws.take (k - 1)) := by
        unfold words
        rw [← List.map_take, List.take_take, Nat.min_eq_left (by omega)]
      refine K_skip ?_
      refine Q_then ?_
      refine K_block ?_
      refine K_region ?_
      refine KV (R_move rfl) rfl ?_
      refine KV (R_move rfl) rfl ?_
      refine KV (R_len sl2007 rfl) rfl ?_
      refine KV (R_sub rfl rfl (by omega)) rfl ?_
      rw [show (k : Int) - 1 = ((k - 1 : Nat) : Int) by omega]
      refine KV (R_sliceHi (m := k - 1) sl2007 ty164 rfl rfl (by omega)) rfl ?_
      refine KV (R_assign rfl) rfl ?_
      refine K_nil ?_
      refine Q_block ?_
      refine Q_nextD (k - 1, (if cp = 0 then some ⟨tb, to_, none⟩ else (some (⟨tb, to_, none⟩ : Addr)).map (·.add 0))) ⟨by dsimp only; omega, by have h3 := hs.hi (m := k - 1) (sz := 1) (by omega) (by omega); rw [Nat.mul_one, hwt] at h3; exact h3, fun j h h2 => by
          dsimp only at h2
          by_cases e : j = k - 1
          · subst e; exact hz0
          · exact hz j h (by omega)⟩ (by (try dsimp only); omega) ⟨rfl, trivial⟩ rfl rfl rfl
    ·
      refine K_exit ?_
      refine Q_then_exit ?_
      refine Q_then_exit ?_
      refine Q_block_exit ?_
      refine Q_then ?_
      refine K_seq ?_
      refine K_region ?_
      refine KV (R_move rfl) rfl ?_
      refine KV (R_build z2009 pl2009 rfl rfl) rfl ?_
      refine K_store ty2009 0 rfl rfl rfl rfl rfl rfl ?_
      refine K_nil ?_
      refine Q_then ?_
      refine K_ret ?_
      refine results_gen (rs := [.cell 2 64]) (vs := [_]) rfl ⟨⟨_, _, _, _, _, _, 0, rfl, rfl, ty2009, (fun e => by cases e), rfl, rfl⟩, trivial⟩ ?_
      refine ⟨_, _, rfl, ws.take k, ?_, valW_take hz, ?_⟩
      · refine Canon.take hok hk ?_
        by_cases h0 : k = 0
        · exact .inl h0
        · first
          | (exfalso; omega)
          | (refine .inr ⟨by omega, ?_⟩; intro e; rw [List.getElem_take] at h14; omega)
      · exact hu
  ·
    intro h6
    refine K_gno rfl rfl rfl rfl ?_
    refine K_gno rfl rfl rfl rfl ?_
    refine K_gno rfl rfl rfl rfl ?_
    refine K_gno rfl rfl rfl rfl ?_
    refine K_gno rfl rfl rfl rfl ?_
    refine K_gno rfl rfl rfl rfl ?_
    refine K_gno rfl rfl rfl rfl ?_
    refine KV (R_pickF rfl rfl) rfl ?_
    refine K_nil ?_
    refine Q_then ?_
    refine K_ifF rfl ?_
    refine K_exit ?_
    refine Q_then_exit ?_
    refine Q_then_exit ?_
    refine Q_block_exit ?_
    refine Q_then ?_
    refine K_seq ?_
    refine K_region ?_
    refine KV (R_move rfl) rfl ?_
    refine KV (R_build z2009 pl2009 rfl rfl) rfl ?_
    refine K_store ty2009 0 rfl rfl rfl rfl rfl rfl ?_
    refine K_nil ?_
    refine Q_then ?_
    refine K_ret ?_
    refine results_gen (rs := [.cell 2 64]) (vs := [_]) rfl ⟨⟨_, _, _, _, _, _, 0, rfl, rfl, ty2009, (fun e => by cases e), rfl, rfl⟩, trivial⟩ ?_
    refine ⟨_, _, rfl, ws.take k, ?_, valW_take hz, ?_⟩
    · refine Canon.take hok hk ?_
      by_cases h0 : k = 0
      · exact .inl h0
      · first
        | (exfalso; omega)
        | (refine .inr ⟨by omega, ?_⟩; intro e; rw [List.getElem_take] at h14; omega)
    · exact hu

theorem fromU_spec (n : Nat) (hn : n < 18446744073709551616) (H : View) : Sat Tryz.prog F2019 #[.int .u64 (n : Int)] H (fun r H' => ∃ xa k cp, r = .agg #[.slice xa k cp] ∧ RepN H' (.slice xa k cp) n) := by
  have hw1 : IntKind.u32.wrap (n : Int) = ((n % 4294967296 : Nat) : Int) := by rw [IntKind.wrap_u32]; omega
  have hw2 : IntKind.u32.wrap ((n / 2 ^ 32 : Nat) : Int) = ((n / 4294967296 : Nat) : Int) := by rw [IntKind.wrap_u32]; omega
  refine enterO (n := 10) (args := [.int .u64 (n : Int)]) Tryz.func26 rfl rfl rfl fun w0 => ?_
  refine K_seq ?_
  refine K_region ?_
  refine KA (A_alloc z2009) rfl fun b2 => ?_
  refine K_nil ?_
  refine Q_then ?_
  refine K_seq ?_
  refine K_region ?_
  refine KV (R_move rfl) rfl ?_
  refine KV (R_convII (by kernel_rfl) ⟨_, Tryz.underlying55⟩ rfl hw1) rfl ?_
  refine KV (R_move rfl) rfl ?_
  refine KV (R_shrU (k := 32) rfl rfl (by decide)) rfl ?_
  refine KV (R_convII (by kernel_rfl) ⟨_, Tryz.underlying55⟩ rfl hw2) rfl ?_
  refine KA (A_buildSlice (vs := [.int .u32 ((n % 4294967296 : Nat) : Int), .int .u32 ((n / 4294967296 : Nat) : Int)]) sl2007 ty164 z164 rfl rfl (by simp [Value.cells]) (by simp) rfl (by decide)) rfl fun b8 => ?_
  refine KO_pubF fun U hU hb8 => ?_
  have hu : UW U (slc 2 b8) [n % 4294967296, n / 4294967296] := ⟨⟨_, _, rfl, .inr ⟨b8, 0, rfl, At.of hb8⟩⟩, fun w hw => by simp at hw; omega⟩
  have hval : valW [n % 4294967296, n / 4294967296] = n := by simp only [valW]; omega
  refine K_call c2047 rfl rfl (trimW_spec [n % 4294967296, n / 4294967296] _ 2 U hu (by simp) (by simp)) ?_
  rintro _ V1 hv1 ⟨xa, k, rfl, hN⟩
  rw [hval] at hN
  refine K_store ty2009 0 rfl rfl rfl rfl rfl rfl ?_
  refine K_nil ?_
  refine Q_then ?_
  refine K_ret ?_
  refine results_gen (rs := [.cell 2 64]) (vs := [_]) rfl ⟨⟨_, _, _, _, _, _, 0, rfl, rfl, ty2009, (fun e => by cases e), rfl, rfl⟩, trivial⟩ ?_
  exact ⟨_, _, _, rfl, hN⟩
end Go.Proofs.X

namespace Go.Proofs.X
open Go Pal Go.Proofs
attribute [local irreducible] Pal.KO Pal.KC Pal.KQ Pal.KD
theorem c2064 : callable Tryz.prog F2064 = true := by kernel_rfl
theorem addcw_spec (xs ys : List Nat) (i c b2 b3 : Nat) (v w : Value) (H : View) (hv : UW H v xs) (hw : UW H w ys) (hA2 : At H b2 0 [v]) (hA3 : At H b3 0 [w]) (hi : i ≤ 1099511627776) (hc : c ≤ 1) :
    Sat Tryz.prog F2063 #[.int .i64 (i : Int), .int .u64 (c : Int), ptr b2, ptr b3] H (fun r _ => r = .tuple #[.int .u32 (((xs.getD i 0 + ys.getD i 0 + c) % 4294967296 : Nat) : Int), .int .u64 (((xs.getD i 0 + ys.getD i 0 + c) / 2 ^ 32 : Nat) : Int)]) := by
  obtain ⟨a, cp, rfl⟩ := hv.shape
  obtain ⟨a2, cp2, rfl⟩ := hw.shape
  have hx : xs.getD i 0 < 4294967296 := by
    by_cases h : i < xs.length
    · have := hv.2 _ (List.getElem_mem h); simpa [List.getD, h] using this
    · simp [List.getD, h]
  have hy : ys.getD i 0 < 4294967296 := by
    by_cases h : i < ys.length
    · have := hw.2 _ (List.getElem_mem h); simpa [List.getD, h] using this
    · simp [List.getD, h]
  generalize hx0 : xs.getD i 0 = x at hx ⊢
  generalize hy0 : ys.getD i 0 = y at hy ⊢
  refine enterO (n := 22) (args := [.int .i64 (i : Int), .int .u64 (c : Int), ptr b2, ptr b3]) Tryz.func61 rfl rfl rfl fun w0 => ?_
  refine K_seq ?_
  refine K_region ?_
  refine KV (R_assign rfl) rfl ?_
  refine KV (R_assign rfl) rfl ?_
  refine K_nil ?_
  refine Q_then ?_
  refine K_seq ?_
  refine K_regionD (fin := false) (R := [0, 1, 3, 4, 7, 2, 5, 6, 8, 9]) (by kernel_rfl) mixed (List.nil_sublist _) ?_
  refine D_val rfl rfl rfl (R_loadH ty2009 rfl (hA2) rfl (fun e => by cases e) rfl) ?_
  refine D_val rfl rfl rfl (R_move rfl) ?_
  refine D_val rfl rfl rfl (R_loadH ty2009 rfl (hA3) rfl (fun e => by cases e) rfl) ?_
  refine D_val rfl rfl rfl (R_move rfl) ?_
  refine D_val rfl rfl rfl (R_move rfl) ?_
  refine D_call rfl rfl c2064 rfl trivial (word_spec xs i _ H hv hi) ?_
  rintro _ V1 hv1 rfl
  rw [hx0]
  refine D_call rfl rfl c2064 rfl trivial (word_spec ys i _ V1 (hw.mono hv1) hi) ?_
  rintro _ V2 hv2 rfl
  rw [hy0]
  refine D_val rfl rfl rfl (R_arith (r := ((x + y : Nat) : Int)) rfl rfl (.inl ⟨rfl, by rw [IntWalk.u64_in _ (by omega)]; omega⟩)) ?_
  refine D_val rfl rfl rfl (R_arith (r := ((x + y + c : Nat) : Int)) rfl rfl (.inl ⟨rfl, by rw [IntWalk.u64_in _ (by omega)]; omega⟩)) ?_
  refine D_val rfl rfl rfl (R_assign rfl) ?_
  refine D_done ?_
  refine Q_then ?_
  refine K_seq ?_
  refine K_region ?_
  refine KV (R_move rfl) rfl ?_
  refine KV (R_convII (by kernel_rfl) ⟨_, Tryz.underlying55⟩ rfl (r := (((x + y + c) % 4294967296 : Nat) : Int)) (by rw [IntKind.wrap_u32]; omega)) rfl ?_
  refine KV (R_move rfl) rfl ?_
  refine KV (R_shrU (k := 32) rfl rfl (by decide)) rfl ?_
  refine KV (R_assign rfl) rfl ?_
  refine KV (R_assign rfl) rfl ?_
  refine K_nil ?_
  refine Q_then ?_
  refine K_ret ?_
  refine results_gen (rs := [.tmp 6, .tmp 7]) (vs := [_, _]) rfl ⟨rfl, ⟨rfl, trivial⟩⟩ ?_
  rfl
end Go.Proofs.X

namespace Go.Proofs.X
open Go Pal Go.Proofs
attribute [local irreducible] Pal.KO Pal.KC Pal.KQ Pal.KD
theorem ap2007 : App Tryz.prog T2007 T164 1 4 := .of sl2007 (by kernel_rfl)
theorem join_spec (n m gf : Nat) (cap0 : List Value) (f : Nat → Nat → Nat × Nat) (H : View) (hn : n ≤ 1073741824) (hm : m < 4294967296) (hf : ∀ i c, c ≤ m → (f i c).1 < 4294967296 ∧ (f i c).2 ≤ m) (hct : callable Tryz.prog gf = true)
    (hdo : ∀ H' (i c : Nat), VLe H H' → i < n → c ≤ m → Sat Tryz.prog gf ([] ++ [Value.int .i64 (i : Int), .int .u64 (c : Int)] ++ cap0).toArray H' (fun r _ => r = .tuple #[.int .u32 ((f i c).1 : Int), .int .u64 ((f i c).2 : Int)])) :
    SatO Tryz.prog F2062 #[.int .i64 (n : Int), .func (.func gf) #[] cap0.toArray] H [] (fun r _ q => ∃ xa cap, r = .slice xa (joinW f n).length cap ∧ q = [row (.slice xa (joinW f n).length cap) T164 1 (joinW f n).length (words (joinW f n))]) := by
  refine enterO (n := 36) (args := [.int .i64 (n : Int), .func (.func gf) #[] cap0.toArray]) Tryz.func60 rfl rfl rfl fun w0 => ?_
  refine K_seq ?_
  refine K_region ?_
  refine KV (R_assign rfl) rfl ?_
  refine K_nil ?_
  refine Q_then ?_
  refine K_seq ?_
  refine K_region ?_
  refine KV (R_move rfl) rfl ?_
  refine KV (R_add rfl rfl (by omega)) rfl ?_
  refine KA (A_makeSlice0 (k := n + 1) ap2007 z164 ty164 rfl rfl (by omega) (by omega)) rfl fun b11 => ?_
  refine KV (R_assign rfl) rfl ?_
  refine K_nil ?_
  refine KQ_rowMade (cap := n + 1) (sz := 1) (by simp [madeCells]) (by simp only [maxLen]; omega) ?_
  refine Q_then ?_
  refine K_seq ?_
  refine K_region ?_
  refine KV (R_assign rfl) rfl ?_
  refine K_nil ?_
  refine Q_then ?_
  refine K_seq ?_
  refine K_seq ?_
  refine K_region ?_
  refine KV (R_move rfl) rfl ?_
  refine KV (R_move rfl) rfl ?_
  refine K_nil ?_
  refine Q_then ?_
  refine K_block ?_
  refine K_loopD (G := Nat × View × Option Addr × Nat) [5, 6, 7, 8, 13, 14, 15, 16, 17, 18, 19, 20, 21, 22, 23, 24, 25, 26, 27] (fun g => [(13, .int .i64 (g.1 : Int)), (6, .int .u64 ((joinF f g.1).2 : Int)), (5, .slice g.2.2.1 g.1 g.2.2.2)]) (fun hl g => (hl.set 0 (row (.slice g.2.2.1 g.1 g.2.2.2) T164 1 g.1 (words (joinF f g.1).1)))) (fun g => g.2.1) (fun g => (g.1 ≤ n) ∧ (VLe H g.2.1)) (fun g => n - g.1) (0, H, some ⟨b11, 0, none⟩, n + 1) ⟨Nat.zero_le _, VLe.refl _⟩ ⟨rfl, rfl, rfl, trivial⟩ (by simp only [args0, Nat.reduceAdd, del, memN, beqN, Nat.reduceBEq, cond_true, cond_false]; rfl) rfl rfl ?_
  rintro ⟨i, V, xa, cp⟩ ⟨hi, hV⟩
  dsimp only at hi hV
  dsimp only [List.set, List.cons_append, List.nil_append]
  obtain ⟨hjo, hjm⟩ := joinF_ok hf i
  have hjl := joinF_len f i
  refine K_seq ?_
  refine K_region ?_
  refine KV (R_cmp rfl rfl rfl) rfl ?_
  refine K_nil ?_
  refine Q_then ?_
  refine K_seq ?_
  refine K_if rfl (fun h14 => ?_) (fun h14 => ?_)
  ·
    have hi2 : i < n := by omega
    refine K_skip ?_
    refine Q_then ?_
    refine K_seq ?_
    refine K_block ?_
    refine K_seq ?_
    refine K_region ?_
    refine KV (R_move rfl) rfl ?_
    refine KV (R_assign rfl) rfl ?_
    refine K_nil ?_
    refine Q_then ?_
    refine K_seq ?_
    refine K_region ?_
    refine KV (R_assign rfl) rfl ?_
    refine K_nil ?_
    refine Q_then ?_
    refine K_seq ?_
    refine K_region ?_
    refine KV (R_move rfl) rfl ?_
    refine KV (R_move rfl) rfl ?_
    refine KV (R_move rfl) rfl ?_
    refine K_callV hct rfl rfl rfl (hdo V i (joinF f i).2 hV hi2 hjm) ?_
    rintro _ V1 hv1 rfl
    refine KV (R_move rfl) rfl ?_
    refine KV (R_extract rfl rfl) rfl ?_
    refine KV (R_extract rfl rfl) rfl ?_
    refine KV (R_assign rfl) rfl ?_
    refine KV (R_assign rfl) rfl ?_
    refine K_nil ?_
    refine Q_then ?_
    refine K_region ?_
    refine KV (R_move rfl) rfl ?_
    refine KV (R_move rfl) rfl ?_
    refine KA (A_buildSlice (vs := [.int .u32 ((f i (joinF f i).2).1 : Int)]) sl2007 ty164 z164 rfl rfl (by simp [Value.cells]) (by simp) rfl (by decide)) rfl fun b25 => ?_
    refine K_append1 0 ap2007 rfl rfl rfl rfl rfl rfl ⟨by omega, by omega⟩ rfl fun a26 k26 hn26 => ?_
    refine KV (R_assign rfl) rfl ?_
    refine K_nil ?_
    refine Q_block ?_
    refine Q_then ?_
    refine K_region ?_
    refine KV (R_add rfl rfl (by omega)) rfl ?_
    refine KV (R_move rfl) rfl ?_
    refine K_nil ?_
    refine Q_nextD (i + 1, V1, a26, k26) ⟨hi2, hV.trans hv1⟩ (by (try dsimp only); omega) ⟨rfl, rfl, rfl, trivial⟩ rfl (by dsimp only [joinF]; rw [words_snoc]; rfl) rfl
  ·
    have hi2 : i = n := by omega
    rw [hi2] at hjl hjm hjo ⊢
    refine K_exit ?_
    refine Q_then_exit ?_
    refine Q_then_exit ?_
    refine Q_block_exit ?_
    refine Q_then ?_
    refine K_seq ?_
    refine K_seq ?_
    refine K_region ?_
    refine KV (R_move rfl) rfl ?_
    refine KV (R_cmp rfl rfl rfl) rfl ?_
    refine K_nil ?_
    refine Q_then ?_
    refine K_if rfl (fun h29 => ?_) (fun h29 => ?_)
    ·
      refine K_region ?_
      refine KV (R_move rfl) rfl ?_
      refine KV (R_move rfl) rfl ?_
      refine KV (R_convII (by kernel_rfl) ⟨_, Tryz.underlying55⟩ rfl (r := (((joinF f n).2 : Nat) : Int)) (by rw [IntKind.wrap_u32]; omega)) rfl ?_
      refine KA (A_buildSlice (vs := [.int .u32 ((joinF f n).2 : Int)]) sl2007 ty164 z164 rfl rfl (by simp [Value.cells]) (by simp) rfl (by decide)) rfl fun b33 => ?_
      refine K_append1 0 ap2007 rfl rfl rfl rfl rfl rfl ⟨by omega, by omega⟩ rfl fun a34 k34 hn34 => ?_
      refine KV (R_assign rfl) rfl ?_
      refine K_nil ?_
      refine Q_then ?_
      refine K_seq ?_
      refine K_region ?_
      refine KV (R_move rfl) rfl ?_
      refine KV (R_assign rfl) rfl ?_
      refine K_nil ?_
      refine Q_then ?_
      refine K_ret ?_
      refine results_sel [0] rfl (rs := [.tmp 4]) (vs := [_]) rfl ⟨rfl, trivial⟩ ?_
      have e : joinW f n = (joinF f n).1 ++ [(joinF f n).2] := by unfold joinW; rw [if_pos (by omega)]
      have el : (joinW f n).length = n + 1 := by rw [e, List.length_append, hjl]; rfl
      rw [el, e, words_snoc]
      exact ⟨_, _, rfl, rfl⟩
    ·
      refine K_skip ?_
      refine Q_then ?_
      refine K_seq ?_
      refine K_region ?_
      refine KV (R_move rfl) rfl ?_
      refine KV (R_assign rfl) rfl ?_
      refine K_nil ?_
      refine Q_then ?_
      refine K_ret ?_
      refine results_sel [0] rfl (rs := [.tmp 4]) (vs := [_]) rfl ⟨rfl, trivial⟩ ?_
      have e : joinW f n = (joinF f n).1 := by unfold joinW; rw [if_neg (by omega)]
      rw [e, hjl]
      exact ⟨_, _, rfl, rfl⟩
end Go.Proofs.X

namespace Go.Proofs.X
open Go Pal Go.Proofs
attribute [local irreducible] Pal.KO Pal.KC Pal.KQ Pal.KD
theorem c2062 : callable Tryz.prog F2062 = true := by kernel_rfl
theorem c2063 : callable Tryz.prog F2063 = true := by kernel_rfl
theorem addN_spec (xs ys : List Nat) (v w : Value) (H : View) (hv : UW H v xs) (hw : UW H w ys) (hlx : xs.length ≤ 1048576) (hly : ys.length ≤ 1048576) : Sat Tryz.prog F2035 #[.agg #[v], .agg #[w]] H (fun r H' => ∃ xa k cp, r = .agg #[.slice xa k cp] ∧ RepN H' (.slice xa k cp) (valW xs + valW ys)) := by
  obtain ⟨a, cp, rfl⟩ := hv.shape
  obtain ⟨a2, cp2, rfl⟩ := hw.shape
  have hf : ∀ i c, c ≤ 1 → (addF xs ys i c).1 < 4294967296 ∧ (addF xs ys i c).2 ≤ 1 := by
    intro i c hc
    have hx : xs.getD i 0 < 4294967296 := by
      by_cases h : i < xs.length
      · have := hv.2 _ (List.getElem_mem h); simpa [List.getD, h] using this
      · simp [List.getD, h]
    have hy : ys.getD i 0 < 4294967296 := by
      by_cases h : i < ys.length
      · have := hw.2 _ (List.getElem_mem h); simpa [List.getD, h] using this
      · simp [List.getD, h]
    simp only [addF]
    omega
  refine enterO (n := 15) (args := [.agg #[.slice a xs.length cp], .agg #[.slice a2 ys.length cp2]]) Tryz.func27 rfl rfl rfl fun w0 => ?_
  refine K_seq ?_
  refine K_region ?_
  refine KA (A_box rfl) rfl fun b2 => ?_
  refine KA (A_box rfl) rfl fun b3 => ?_
  refine KA (A_alloc z2009) rfl fun b4 => ?_
  refine K_nil ?_
  refine KQ_front 1 rfl ?_
  refine KQ_pubF fun Va hva hb3 => ?_
  try dsimp only [List.eraseIdx]
  refine KQ_front 1 rfl ?_
  refine KQ_pubF fun U hvb hb2 => ?_
  try dsimp only [List.eraseIdx]
  have hU := hva.trans hvb
  have hA2 := At.of hb2
  have hA3 := (At.of hb3).mono hvb
  refine Q_then ?_
  refine K_seq ?_
  refine K_region ?_
  refine KV (R_fieldAddr 0 fd2009_0 rfl) rfl ?_
  refine KV (R_loadH ty2007 rfl (hA2.one (j := 0) rfl) rfl (fun _ => rfl) rfl) rfl ?_
  refine KV (R_len sl2007 rfl) rfl ?_
  refine KV (R_fieldAddr 0 fd2009_0 rfl) rfl ?_
  refine KV (R_loadH ty2007 rfl (hA3.one (j := 0) rfl) rfl (fun _ => rfl) rfl) rfl ?_
  refine KV (R_len sl2007 rfl) rfl ?_
  refine KV (R_max2 rfl rfl) rfl ?_
  refine KV (R_makeFunc rfl rfl) rfl ?_
  obtain ⟨n, hn, hnx, hny, hn2⟩ : ∃ n : Nat, (if (ys.length : Int) > (xs.length : Int) then (ys.length : Int) else (xs.length : Int)) = (n : Int) ∧ xs.length ≤ n ∧ ys.length ≤ n ∧ n ≤ 1048576 := by
    by_cases h : (ys.length : Int) > (xs.length : Int)
    · exact ⟨ys.length, by rw [if_pos h], by omega, Nat.le_refl _, by omega⟩
    · exact ⟨xs.length, by rw [if_neg h], Nat.le_refl _, by omega, by omega⟩
  rw [hn]
  refine K_callO (first := []) [] [_] (List.Perm.refl _) c2062 rfl rfl rfl (join_spec n 1 F2063 [ptr b2, ptr b3] (addF xs ys) U (by omega) (by decide) hf c2063 (fun H2 i c hle hi hc => addcw_spec xs ys i c b2 b3 _ _ H2 (hv.mono (hU.trans hle)) (hw.mono (hU.trans hle)) (hA2.mono hle) (hA3.mono hle) (by omega) hc)) ?_
  rintro _ V1 q hv1 ⟨xa, cq, rfl, rfl⟩
  dsimp only [List.cons_append, List.nil_append]
  refine KO_pubrowF fun V2 hv2 hrow hcap => ?_
  obtain ⟨xa2, cq2, he, hcle⟩ := hcap
  cases he
  have hjw : WordsOk (joinW (addF xs ys) n) := by
    obtain ⟨g1, g2⟩ := joinF_ok hf n
    unfold joinW
    split
    · intro w hw
      rcases List.mem_append.1 hw with hw | hw
      · exact g1 w hw
      · simp at hw; subst hw; omega
    · exact g1
  have hjl : (joinW (addF xs ys) n).length ≤ n + 1 := by
    have := joinF_len (addF xs ys) n
    unfold joinW
    split
    · rw [List.length_append]; simp; omega
    · omega
  refine K_call c2047 rfl rfl (trimW_spec (joinW (addF xs ys) n) _ _ V2 ⟨hrow.sl, hjw⟩ hcle (by omega)) ?_
  rintro _ V3 hv3 ⟨ta, tk, rfl, hN⟩
  rw [joinW_val xs ys n hnx hny] at hN
  refine K_store ty2009 0 rfl rfl rfl rfl rfl rfl ?_
  refine K_nil ?_
  refine Q_then ?_
  refine K_ret ?_
  refine results_gen (rs := [.cell 4 64]) (vs := [_]) rfl ⟨⟨_, _, _, _, _, _, 0, rfl, rfl, ty2009, (fun e => by cases e), rfl, rfl⟩, trivial⟩ ?_
  exact ⟨_, _, _, rfl, hN⟩
end Go.Proofs.X

namespace Go.Proofs.X
open Go Pal Go.Proofs
attribute [local irreducible] Pal.KO Pal.KC Pal.KQ Pal.KD
theorem c2044 : callable Tryz.prog F2044 = true := by kernel_rfl
theorem c2076 : callable Tryz.prog F2076 = true := by kernel_rfl
theorem or_spec (xs : List Int) (b : Nat) (H : View) (hl : xs.length ≤ 1099511627776) : SatO Tryz.prog F2076 #[slc xs.length b] H [blk b (.cells (ints xs).toArray T3 (0, 0))] (fun r _ q => q = [] ∧ r = .int .i64 ((xs.find? fun x => decide (x ≠ 0)).getD 0)) := by
  refine enterO (n := 18) (args := [slc xs.length b]) Tryz.func66 rfl rfl rfl fun w0 => ?_
  refine K_seq ?_
  refine K_region ?_
  refine KV (R_assign rfl) rfl ?_
  refine K_nil ?_
  refine Q_then ?_
  refine K_seq ?_
  refine K_region ?_
  refine KV (R_assign rfl) rfl ?_
  refine K_nil ?_
  refine Q_then ?_
  refine K_seq ?_
  refine K_seq ?_
  refine K_region ?_
  refine KV (R_move rfl) rfl ?_
  refine KV (R_len sl25 rfl) rfl ?_
  refine KV (R_move rfl) rfl ?_
  refine K_nil ?_
  refine Q_then ?_
  refine K_block ?_
  refine K_loopD (G := Nat) [2, 5, 8, 9, 10, 11, 12, 13, 14, 15, 16] (fun g => [(8, .int .i64 (g : Int))]) (fun hl g => hl) (fun g => H) (fun g => (g ≤ xs.length) ∧ (xs.find? (fun x => decide (x ≠ 0)) = (xs.drop g).find? fun x => decide (x ≠ 0))) (fun g => xs.length - g) (0 : Nat) ⟨Nat.zero_le _, rfl⟩ ⟨rfl, trivial⟩ (by simp only [args0, Nat.reduceAdd, del, memN, beqN, Nat.reduceBEq, cond_true, cond_false]; rfl) rfl rfl ?_
  rintro k ⟨hk, hc⟩
  try dsimp only at hk
  try dsimp only at hc
  dsimp only [List.set, List.cons_append, List.nil_append]
  refine K_seq ?_
  refine K_region ?_
  refine KV (R_cmp rfl rfl rfl) rfl ?_
  refine K_nil ?_
  refine Q_then ?_
  refine K_seq ?_
  refine K_if rfl (fun h9 => ?_) (fun h9 => ?_)
  ·
    have hk' : k < xs.length := by omega
    refine K_skip ?_
    refine Q_then ?_
    refine K_seq ?_
    refine K_block ?_
    refine K_seq ?_
    refine K_region ?_
    refine KV (R_indexN sl25 ty3 rfl rfl (by omega)) rfl ?_
    refine KV (R_loadC ty3 0 rfl rfl (by simp [ints, hk'] : ((ints xs).toArray)[(0 + k * 1)]? = some (.int .i64 xs[k]))) rfl ?_
    refine KV (R_assign rfl) rfl ?_
    refine K_nil ?_
    refine Q_then ?_
    refine K_seq ?_
    refine K_region ?_
    refine KV (R_move rfl) rfl ?_
    refine KV (R_move rfl) rfl ?_
    refine KV (R_cmp rfl rfl rfl) rfl ?_
    refine K_nil ?_
    refine Q_then ?_
    refine K_if rfl (fun h14 => ?_) (fun h14 => ?_)
    ·
      refine K_seq ?_
      refine K_region ?_
      refine KV (R_move rfl) rfl ?_
      refine KV (R_assign rfl) rfl ?_
      refine K_nil ?_
      refine Q_then ?_
      refine K_ret ?_
      refine Q_block_ret ?_
      refine Q_then_ret ?_
      refine Q_then_ret ?_
      refine Q_block_ret ?_
      refine Q_then_ret ?_
      refine results_sel [] rfl (rs := [.tmp 2]) (vs := [_]) rfl ⟨rfl, trivial⟩ ?_
      rw [hc, List.drop_eq_getElem_cons hk', List.find?_cons_of_pos (by simpa using h14)]
      exact ⟨rfl, rfl⟩
    ·
      have hc2 : xs.find? (fun x => decide (x ≠ 0)) = (xs.drop (k + 1)).find? fun x => decide (x ≠ 0) := by
        rw [hc, List.drop_eq_getElem_cons hk', List.find?_cons_of_neg (by simpa using h14)]
      refine K_skip ?_
      refine Q_block ?_
      refine Q_then ?_
      refine K_region ?_
      refine KV (R_add rfl rfl (by omega)) rfl ?_
      refine KV (R_move rfl) rfl ?_
      refine K_nil ?_
      refine Q_nextD ((k + 1)) ⟨hk', hc2⟩ (by (try dsimp only); omega) ⟨rfl, trivial⟩ rfl rfl rfl
  ·
    have hk' : k = xs.length := by omega
    refine K_exit ?_
    refine Q_then_exit ?_
    refine Q_then_exit ?_
    refine Q_block_exit ?_
    refine Q_then ?_
    refine K_seq ?_
    refine K_region ?_
    refine KV (R_move rfl) rfl ?_
    refine KV (R_assign rfl) rfl ?_
    refine K_nil ?_
    refine Q_then ?_
    refine K_ret ?_
    refine results_sel [] rfl (rs := [.tmp 2]) (vs := [_]) rfl ⟨rfl, trivial⟩ ?_
    rw [hc, hk', List.drop_length]
    exact ⟨rfl, rfl⟩

theorem order_spec (r s : Rl) (a a2 : Option Addr) (cp cp2 : Nat) (H : View) (hr : SI H (.slice a r.args.length cp) r.args) (hs : SI H (.slice a2 s.args.length cp2) s.args) (hrl : r.args.length ≤ 1099511627776) (hsl : s.args.length ≤ 1099511627776) :
    Sat Tryz.prog F2050 #[.agg #[.int .i64 r.sym, .slice a r.args.length cp, .int .i64 r.to], .agg #[.int .i64 s.sym, .slice a2 s.args.length cp2, .int .i64 s.to]] H (fun v _ => v = .int .i64 (ordR r s)) := by
  refine enterO (n := 22) (args := [.agg #[.int .i64 r.sym, .slice a r.args.length cp, .int .i64 r.to], .agg #[.int .i64 s.sym, .slice a2 s.args.length cp2, .int .i64 s.to]]) Tryz.func132 rfl rfl rfl fun w0 => ?_
  refine K_seq ?_
  refine K_region ?_
  refine KA (A_box rfl) rfl fun b2 => ?_
  refine KA (A_box rfl) rfl fun b3 => ?_
  refine KV (R_assign rfl) rfl ?_
  refine K_nil ?_
  refine Q_then ?_
  refine K_seq ?_
  refine K_regionD (fin := false) (R := [0, 1, 2, 3, 5, 6, 7, 8, 10, 11, 12, 13, 4, 9, 14, 15, 16, 17]) (by kernel_rfl) mixed (.cons_cons _ (.cons_cons _ (List.nil_sublist _))) ?_
  refine D_val rfl rfl rfl (R_fieldAddr 0 fd85_0 rfl) ?_
  refine D_val rfl rfl rfl (R_loadO ty3 1 rfl rfl rfl rfl (fun _ => rfl) rfl) ?_
  refine D_val rfl rfl rfl (R_fieldAddr 0 fd85_0 rfl) ?_
  refine D_val rfl rfl rfl (R_loadO ty3 0 rfl rfl rfl rfl (fun _ => rfl) rfl) ?_
  refine D_val rfl rfl rfl (R_fieldAddr 1 fd85_1 rfl) ?_
  refine D_val rfl rfl rfl (R_loadO ty25 1 rfl rfl rfl rfl (fun _ => rfl) rfl) ?_
  refine D_val rfl rfl rfl (R_fieldAddr 1 fd85_1 rfl) ?_
  refine D_val rfl rfl rfl (R_loadO ty25 0 rfl rfl rfl rfl (fun _ => rfl) rfl) ?_
  refine D_val rfl rfl rfl (R_fieldAddr 2 fd85_2 rfl) ?_
  refine D_val rfl rfl rfl (R_loadO ty3 1 rfl rfl rfl rfl (fun _ => rfl) rfl) ?_
  refine D_val rfl rfl rfl (R_fieldAddr 2 fd85_2 rfl) ?_
  refine D_val rfl rfl rfl (R_loadO ty3 0 rfl rfl rfl rfl (fun _ => rfl) rfl) ?_
  refine D_call rfl rfl c2071 rfl ⟨⟨0, rfl⟩, ⟨1, rfl⟩, trivial⟩ (ccmp_spec r.sym s.sym H) ?_
  rintro _ V1 hv1 rfl
  refine D_call rfl rfl c2044 rfl ⟨⟨0, rfl⟩, ⟨1, rfl⟩, trivial⟩ (compareI_spec r.args s.args _ _ V1 (hr.mono hv1) (hs.mono hv1) hrl hsl) ?_
  rintro _ V2 hv2 rfl
  refine D_call rfl rfl c2071 rfl ⟨⟨0, rfl⟩, ⟨1, rfl⟩, trivial⟩ (ccmp_spec r.to s.to V2) ?_
  rintro _ V3 hv3 rfl
  refine D_alloc rfl rfl rfl (A_buildSlice (vs := [.int .i64 (if r.sym < s.sym then -1 else if s.sym < r.sym then 1 else 0), .int .i64 (cmpL r.args s.args), .int .i64 (if r.to < s.to then -1 else if s.to < r.to then 1 else 0)]) sl25 ty3 z3 rfl rfl (by simp [Value.cells]) (by simp) rfl (by decide)) fun b20 => ?_
  refine D_callO (first := []) [_] _ rfl rfl c2076 rfl rfl (List.Perm.refl _) ⟨⟨0, rfl⟩, ⟨1, rfl⟩, trivial⟩ (or_spec [(if r.sym < s.sym then -1 else if s.sym < r.sym then 1 else 0), cmpL r.args s.args, (if r.to < s.to then -1 else if s.to < r.to then 1 else 0)] b20 V3 (by simp)) ?_
  rintro _ V4 q hle4 ⟨rfl, rfl⟩
  dsimp only [List.nil_append]
  refine D_val rfl rfl rfl (R_assign rfl) ?_
  refine D_done ?_
  refine Q_then ?_
  refine K_ret ?_
  refine results_gen (rs := [.tmp 4]) (vs := [_]) rfl ⟨rfl, trivial⟩ ?_
  refine congrArg (Value.int .i64) ?_
  unfold ordR
  by_cases h1 : r.sym < s.sym
  · simp [h1]
  · by_cases h2 : s.sym < r.sym
    · simp [h1, h2]
    · by_cases h3 : cmpL r.args s.args = 0
      · by_cases h4 : r.to < s.to
        · simp [h1, h2, h3, h4]
        · by_cases h5 : s.to < r.to
          · simp [h1, h2, h3, h4, h5]
          · simp [h1, h2, h3, h4, h5]
      · simp [h1, h2, h3]
end Go.Proofs.X
