/-
  Part of the proof: contracts of the functions that the statements reach. Own work. No statement of the seat is proved here.
-/
import Derived.Test.YtbelekbnjiajaaaDoorPalO
import Derived.Test.YtbelekbnjiajaaaDoorProg
namespace Go.Proofs.X
open Go Pal Go.Proofs
attribute [local irreducible] Pal.KO Pal.KC Pal.KQ Pal.KD
theorem mixed : Tryd.prog.follows .mixedOrders = true := by kernel_rfl
theorem ty3 : Ty Tryd.prog 3 false 1 := .of (by kernel_rfl)
theorem ty5 : Ty Tryd.prog 5 false 1 := .of (by kernel_rfl)
theorem ty25 : Ty Tryd.prog 25 false 1 := .of (by kernel_rfl)
theorem ty96 : Ty Tryd.prog 96 false 1 := .of (by kernel_rfl)
theorem ty98 : Ty Tryd.prog 98 true 16 := .of (by kernel_rfl)
theorem sl25 : slcOk Tryd.prog 25 3 := by unfold slcOk; kernel_rfl
theorem z3 : zeroOk Tryd.prog 3 (.int .i64 0) := .of (by kernel_rfl)
theorem z98 : zeroOk Tryd.prog 98 (setV 0) := .of (by kernel_rfl)
theorem ar98 : Tryd.prog.underlying 98 = some (.array 16 96) := by kernel_rfl
theorem ar155 : Tryd.prog.underlying 155 = some (.array 64 5) := by kernel_rfl
theorem c80 : callable Tryd.prog 80 = true := by kernel_rfl
theorem c81 : callable Tryd.prog 81 = true := by kernel_rfl
theorem c82 : callable Tryd.prog 82 = true := by kernel_rfl
theorem c104 : callable Tryd.prog 104 = true := by kernel_rfl
theorem c105 : callable Tryd.prog 105 = true := by kernel_rfl
theorem c106 : callable Tryd.prog 106 = true := by kernel_rfl
theorem c107 : callable Tryd.prog 107 = true := by kernel_rfl
theorem c108 : callable Tryd.prog 108 = true := by kernel_rfl
theorem c109 : callable Tryd.prog 109 = true := by kernel_rfl
theorem c117 : callable Tryd.prog 117 = true := by kernel_rfl
theorem ap25 : App Tryd.prog 25 3 1 8 := .of sl25 (by kernel_rfl)
theorem kl98 : WideMaps.KeyLaw Tryd.prog 98 := deep_law_laid (m := 2) (by kernel_rfl) (by decide) (Nat.le_of_ble_eq_true (by kernel_rfl)) (by kernel_rfl) (by kernel_rfl)
theorem set98 : SetT Tryd.prog 98 96 := ⟨by unfold arrOk; kernel_rfl, by kernel_rfl, by kernel_rfl, by kernel_rfl, by kernel_rfl, by kernel_rfl, kl98, by kernel_rfl, ⟨173, by kernel_rfl⟩⟩
theorem kl106 : WideMaps.KeyLaw Tryd.prog 106 := deep_law_laid (m := 2) (by kernel_rfl) (by decide) (Nat.le_of_ble_eq_true (by kernel_rfl)) (by kernel_rfl) (by kernel_rfl)
theorem tri106 : TriT Tryd.prog 106 3 := ⟨⟨_, _, _, Tryd.underlying106, ⟨by decide, rfl, rfl⟩, ⟨by decide, rfl, rfl⟩, ⟨by decide, rfl, rfl⟩⟩, by kernel_rfl, by kernel_rfl, by kernel_rfl, by kernel_rfl, kl106, ⟨173, by kernel_rfl⟩⟩
theorem fits_spec (i : Int) (H : View) : Sat Tryd.prog 108 #[.int .i64 i] H (fun v _ => v = .bool (decide (0 ≤ i ∧ i < 1024))) := by
  refine enterO (n := 9) (args := [.int .i64 i]) Tryd.func108 rfl rfl rfl fun w0 => ?_
  refine K_seq ?_
  refine K_region ?_
  refine KV (R_assign rfl) rfl ?_
  refine K_nil ?_
  refine Q_then ?_
  refine K_seq ?_
  refine K_region ?_
  refine KV (R_move rfl) rfl ?_
  refine KV (R_cmp rfl rfl rfl) rfl ?_
  refine KV (R_move rfl) rfl ?_
  refine K_split ?_ ?_
  ·
    intro h5
    refine K_gyes rfl rfl ?_
    refine KV (R_move rfl) rfl ?_
    refine K_gyes rfl rfl ?_
    refine KV (R_cmp rfl rfl rfl) rfl ?_
    refine KV (R_pickT rfl rfl) rfl ?_
    refine KV (R_assign rfl) rfl ?_
    refine K_nil ?_
    refine Q_then ?_
    refine K_ret ?_
    refine results_gen (rs := [.tmp 2]) (vs := [_]) rfl ⟨rfl, trivial⟩ ?_
    simp [tupV, h5]
  ·
    intro h5
    refine K_gno rfl rfl rfl rfl ?_
    refine K_gno rfl rfl rfl rfl ?_
    refine KV (R_pickF rfl rfl) rfl ?_
    refine KV (R_assign rfl) rfl ?_
    refine K_nil ?_
    refine Q_then ?_
    refine K_ret ?_
    refine results_gen (rs := [.tmp 2]) (vs := [_]) rfl ⟨rfl, trivial⟩ ?_
    simp [tupV, h5]

theorem bit_spec (k : Nat) (H : View) : Sat Tryd.prog 109 #[.int .i64 (k : Int)] H (fun v _ => v = .int .u64 ((2 ^ (k % 64) : Nat) : Int)) := by
  refine enterO (n := 6) (args := [.int .i64 (k : Int)]) Tryd.func109 rfl rfl rfl fun w0 => ?_
  refine K_seq ?_
  refine K_region ?_
  refine KV (R_assign rfl) rfl ?_
  refine K_nil ?_
  refine Q_then ?_
  refine K_seq ?_
  refine K_region ?_
  refine KV (R_move rfl) rfl ?_
  refine KV (R_rem rfl rfl (by decide)) rfl ?_
  refine KV (R_shl1U (k := k % 64) rfl rfl (by rw [Int.tmod_eq_emod_of_nonneg (by omega)]; omega) (Nat.mod_lt _ (by decide))) rfl ?_
  refine KV (R_assign rfl) rfl ?_
  refine K_nil ?_
  refine Q_then ?_
  refine K_ret ?_
  refine results_gen (rs := [.tmp 2]) (vs := [_]) rfl ⟨rfl, trivial⟩ ?_
  rfl

theorem with_spec (s : Nat) (i : Int) (H : View) : Sat Tryd.prog 82 #[setV s, .int .i64 i] H (fun v _ => v = setV (if 0 ≤ i ∧ i < 1024 then s ||| 2 ^ i.toNat else s)) := by
  refine enterO (n := 16) (args := [setV s, .int .i64 i]) Tryd.func82 rfl rfl rfl fun w0 => ?_
  refine K_seq ?_
  refine K_region ?_
  refine KA (A_box rfl) rfl fun b2 => ?_
  refine KA (A_alloc z98) rfl fun b4 => ?_
  refine K_nil ?_
  refine Q_then ?_
  refine K_seq ?_
  refine K_seq ?_
  refine K_region ?_
  refine KV (R_move rfl) rfl ?_
  refine K_call c108 rfl rfl (fits_spec i H) ?_
  rintro _ V' hle1 rfl
  refine K_nil ?_
  refine Q_then ?_
  refine K_if rfl (fun h6 => ?_) (fun h6 => ?_)
  ·
    obtain ⟨k, rfl⟩ : ∃ k : Nat, i = k := ⟨i.toNat, by omega⟩
    rw [if_pos h6]
    have hk : k / 64 < 16 := by omega
    have hk64 : (2 : Nat) ^ (k % 64) < 18446744073709551616 := by rw [two64]; exact Nat.pow_lt_pow_right (by decide) (Nat.mod_lt _ (by decide))
    simp only [Int.toNat_natCast]
    refine K_regionD (fin := true) (R := [0, 1, 2, 3, 4, 5, 6, 7, 8]) (by kernel_rfl) mixed (.cons _ (.cons_cons _ (List.nil_sublist _))) ?_
    refine D_val rfl rfl rfl (R_move rfl) ?_
    refine D_val rfl rfl rfl (R_quo (r := ((k / 64 : Nat) : Int)) rfl rfl (by decide) (by rw [wrap64 (by rw [Int.tdiv_eq_ediv_of_nonneg (by omega)]; omega), Int.tdiv_eq_ediv_of_nonneg (by omega)]; omega)) ?_
    refine D_val rfl rfl rfl (R_indexArr ar98 ty96 rfl rfl ⟨by omega, by omega⟩) ?_
    refine D_val rfl rfl rfl (R_loadC ty96 0 rfl rfl (cells_get s (k / 64) (by omega) hk)) ?_
    refine D_val rfl rfl rfl (R_move rfl) ?_
    refine D_call rfl rfl c109 rfl ⟨⟨1, rfl⟩, trivial⟩ (bit_spec k V') ?_
    rintro _ V'' hle2 rfl
    refine D_val rfl rfl rfl (R_bitsU rfl rfl (wd_lt _ _) hk64 (.inr (.inl ⟨rfl, rfl⟩))) ?_
    refine D_val rfl rfl rfl (R_indexArr ar98 ty96 rfl rfl ⟨by omega, by omega⟩) ?_
    refine D_lastStoreE ty96 1 rfl rfl rfl rfl rfl rfl (cells_fit s (k / 64) (by omega) hk) rfl (cells_put (s := s) (t := s ||| 2 ^ k) (k := k / 64) (by omega) hk (fun i _ => by rw [wd_or]; split <;> simp_all)) ?_
    refine Q_then ?_
    refine K_seq ?_
    refine K_region ?_
    refine KV (R_loadW ty98 1 rfl rfl rfl rfl) rfl ?_
    refine K_storeW ty98 0 rfl rfl rfl rfl rfl rfl rfl ?_
    refine K_nil ?_
    refine Q_then ?_
    refine K_ret ?_
    refine results_gen (rs := [.cell 4 98]) (vs := [_]) rfl ⟨⟨_, _, _, _, _, _, 0, rfl, rfl, ty98, (fun e => by cases e), rfl, rfl⟩, trivial⟩ ?_
    rfl
  ·
    rw [if_neg h6]
    refine K_skip ?_
    refine Q_then ?_
    refine K_seq ?_
    refine K_region ?_
    refine KV (R_loadW ty98 1 rfl rfl rfl rfl) rfl ?_
    refine K_storeW ty98 0 rfl rfl rfl rfl rfl rfl rfl ?_
    refine K_nil ?_
    refine Q_then ?_
    refine K_ret ?_
    refine results_gen (rs := [.cell 4 98]) (vs := [_]) rfl ⟨⟨_, _, _, _, _, _, 0, rfl, rfl, ty98, (fun e => by cases e), rfl, rfl⟩, trivial⟩ ?_
    rfl

theorem without_spec (s : Nat) (i : Int) (H : View) : Sat Tryd.prog 107 #[setV s, .int .i64 i] H (fun v _ => v = setV (if 0 ≤ i ∧ i < 1024 then clr s i.toNat else s)) := by
  refine enterO (n := 16) (args := [setV s, .int .i64 i]) Tryd.func107 rfl rfl rfl fun w0 => ?_
  refine K_seq ?_
  refine K_region ?_
  refine KA (A_box rfl) rfl fun b2 => ?_
  refine KA (A_alloc z98) rfl fun b4 => ?_
  refine K_nil ?_
  refine Q_then ?_
  refine K_seq ?_
  refine K_seq ?_
  refine K_region ?_
  refine KV (R_move rfl) rfl ?_
  refine K_call c108 rfl rfl (fits_spec i H) ?_
  rintro _ V' hle1 rfl
  refine K_nil ?_
  refine Q_then ?_
  refine K_if rfl (fun h6 => ?_) (fun h6 => ?_)
  ·
    obtain ⟨k, rfl⟩ : ∃ k : Nat, i = k := ⟨i.toNat, by omega⟩
    rw [if_pos h6]
    have hk : k / 64 < 16 := by omega
    have hk64 : (2 : Nat) ^ (k % 64) < 18446744073709551616 := by rw [two64]; exact Nat.pow_lt_pow_right (by decide) (Nat.mod_lt _ (by decide))
    simp only [Int.toNat_natCast]
    refine K_regionD (fin := true) (R := [0, 1, 2, 3, 4, 5, 6, 7, 8]) (by kernel_rfl) mixed (.cons _ (.cons_cons _ (List.nil_sublist _))) ?_
    refine D_val rfl rfl rfl (R_move rfl) ?_
    refine D_val rfl rfl rfl (R_quo (r := ((k / 64 : Nat) : Int)) rfl rfl (by decide) (by rw [wrap64 (by rw [Int.tdiv_eq_ediv_of_nonneg (by omega)]; omega), Int.tdiv_eq_ediv_of_nonneg (by omega)]; omega)) ?_
    refine D_val rfl rfl rfl (R_indexArr ar98 ty96 rfl rfl ⟨by omega, by omega⟩) ?_
    refine D_val rfl rfl rfl (R_loadC ty96 0 rfl rfl (cells_get s (k / 64) (by omega) hk)) ?_
    refine D_val rfl rfl rfl (R_move rfl) ?_
    refine D_call rfl rfl c109 rfl ⟨⟨1, rfl⟩, trivial⟩ (bit_spec k V') ?_
    rintro _ V'' hle2 rfl
    refine D_val rfl rfl rfl (R_bitsU rfl rfl (wd_lt _ _) hk64 (.inr (.inr ⟨rfl, rfl⟩))) ?_
    refine D_val rfl rfl rfl (R_indexArr ar98 ty96 rfl rfl ⟨by omega, by omega⟩) ?_
    refine D_lastStoreE ty96 1 rfl rfl rfl rfl rfl rfl (cells_fit s (k / 64) (by omega) hk) rfl (cells_put (s := s) (t := clr s k) (k := k / 64) (by omega) hk (fun i _ => by rw [wd_clr]; split <;> simp_all)) ?_
    refine Q_then ?_
    refine K_seq ?_
    refine K_region ?_
    refine KV (R_loadW ty98 1 rfl rfl rfl rfl) rfl ?_
    refine K_storeW ty98 0 rfl rfl rfl rfl rfl rfl rfl ?_
    refine K_nil ?_
    refine Q_then ?_
    refine K_ret ?_
    refine results_gen (rs := [.cell 4 98]) (vs := [_]) rfl ⟨⟨_, _, _, _, _, _, 0, rfl, rfl, ty98, (fun e => by cases e), rfl, rfl⟩, trivial⟩ ?_
    rfl
  ·
    rw [if_neg h6]
    refine K_skip ?_
    refine Q_then ?_
    refine K_seq ?_
    refine K_region ?_
    refine KV (R_loadW ty98 1 rfl rfl rfl rfl) rfl ?_
    refine K_storeW ty98 0 rfl rfl rfl rfl rfl rfl rfl ?_
    refine K_nil ?_
    refine Q_then ?_
    refine K_ret ?_
    refine results_gen (rs := [.cell 4 98]) (vs := [_]) rfl ⟨⟨_, _, _, _, _, _, 0, rfl, rfl, ty98, (fun e => by cases e), rfl, rfl⟩, trivial⟩ ?_
    rfl

theorem has_spec (s : Nat) (i : Int) (H : View) : Sat Tryd.prog 120 #[setV s, .int .i64 i] H (fun v _ => v = .bool (decide (0 ≤ i ∧ i < 1024) && s.testBit i.toNat)) := by
  refine enterO (n := 17) (args := [setV s, .int .i64 i]) Tryd.func120 rfl rfl rfl fun w0 => ?_
  refine K_seq ?_
  refine K_region ?_
  refine KA (A_box rfl) rfl fun b2 => ?_
  refine KV (R_assign rfl) rfl ?_
  refine K_nil ?_
  refine Q_then ?_
  refine K_seq ?_
  refine K_regionD (fin := false) (R := [0, 1, 2, 3, 4, 5, 6, 7, 8, 9, 10, 11, 12]) (by kernel_rfl) mixed (.cons_cons _ (List.nil_sublist _)) ?_
  refine D_val rfl rfl rfl (R_move rfl) ?_
  refine D_call rfl rfl c108 rfl ⟨⟨0, rfl⟩, trivial⟩ (fits_spec i H) ?_
  rintro _ V' hle1 rfl
  refine D_val rfl rfl rfl (R_move rfl) ?_
  refine D_split ?_ ?_
  ·
    intro h6
    obtain ⟨k, rfl⟩ : ∃ k : Nat, i = k := ⟨i.toNat, by omega⟩
    have hk : k / 64 < 16 := by omega
    have hk64 : (2 : Nat) ^ (k % 64) < 18446744073709551616 := by rw [two64]; exact Nat.pow_lt_pow_right (by decide) (Nat.mod_lt _ (by decide))
    refine D_val rfl rfl rfl (R_move rfl) ?_
    refine D_val rfl rfl rfl (R_quo (r := ((k / 64 : Nat) : Int)) rfl rfl (by decide) (by rw [wrap64 (by rw [Int.tdiv_eq_ediv_of_nonneg (by omega)]; omega), Int.tdiv_eq_ediv_of_nonneg (by omega)]; omega)) ?_
    refine D_val rfl rfl rfl (R_indexArr ar98 ty96 rfl rfl ⟨by omega, by omega⟩) ?_
    refine D_val rfl rfl rfl (R_loadC ty96 0 rfl rfl (cells_get s (k / 64) (by omega) hk)) ?_
    refine D_val rfl rfl rfl (R_move rfl) ?_
    refine D_call rfl rfl c109 rfl ⟨⟨0, rfl⟩, trivial⟩ (bit_spec k V') ?_
    rintro _ V'' hle2 rfl
    refine D_val rfl rfl rfl (R_bitsU rfl rfl (wd_lt _ _) hk64 (.inl ⟨rfl, rfl⟩)) ?_
    refine D_val rfl rfl rfl (R_cmp rfl rfl rfl) ?_
    refine D_val rfl rfl rfl (R_pickT rfl rfl) ?_
    refine D_val rfl rfl rfl (R_assign rfl) ?_
    refine D_done ?_
    refine Q_then ?_
    refine K_ret ?_
    refine results_gen (rs := [.tmp 4]) (vs := [_]) rfl ⟨rfl, trivial⟩ ?_
    have h1 := has_word s k
    simp only [tupV]
    refine congrArg Value.bool ?_
    rw [decide_eq_true h6]
    simp only [Int.toNat_natCast, Bool.true_and]
    cases hb : s.testBit k
    · rw [hb] at h1; simp at h1 ⊢; omega
    · rw [hb] at h1; simp at h1 ⊢; omega
  ·
    intro h6
    refine D_skip rfl rfl ?_
    refine D_skip rfl rfl ?_
    refine D_skip rfl rfl ?_
    refine D_skip rfl rfl ?_
    refine D_skip rfl rfl ?_
    refine D_skip rfl rfl ?_
    refine D_skip rfl rfl ?_
    refine D_skip rfl rfl ?_
    refine D_val rfl rfl rfl (R_pickF rfl rfl) ?_
    refine D_val rfl rfl rfl (R_assign rfl) ?_
    refine D_done ?_
    refine Q_then ?_
    refine K_ret ?_
    refine results_gen (rs := [.tmp 4]) (vs := [_]) rfl ⟨rfl, trivial⟩ ?_
    simp [tupV, h6]

theorem isEmpty_spec (s : Nat) (hs : s < big) (H : View) : Sat Tryd.prog 47 #[setV s] H (fun v _ => v = .bool (decide (s = 0))) := by
  refine enterO (n := 6) (args := [setV s]) Tryd.func47 rfl rfl rfl fun w0 => ?_
  refine K_seq ?_
  refine K_region ?_
  refine KA (A_box rfl) rfl fun b1 => ?_
  refine KV (R_assign rfl) rfl ?_
  refine K_nil ?_
  refine Q_then ?_
  refine K_seq ?_
  refine K_region ?_
  refine KV (R_loadW ty98 0 rfl rfl rfl rfl) rfl ?_
  refine KV (R_buildArr z98 ar98 ty96 rfl rfl) rfl ?_
  refine KV (R_eqSet (s := s) (u := 0) set98 hs zero_big rfl rfl) rfl ?_
  refine KV (R_assign rfl) rfl ?_
  refine K_nil ?_
  refine Q_then ?_
  refine K_ret ?_
  refine results_gen (rs := [.tmp 2]) (vs := [_]) rfl ⟨rfl, trivial⟩ ?_
  rfl

theorem inter_spec (s t : Nat) (hs : s < big) (H : View) : Sat Tryd.prog 46 #[setV s, setV t] H (fun v _ => v = setV (s &&& t)) := by
  refine enterO (n := 19) (args := [setV s, setV t]) Tryd.func46 rfl rfl rfl fun w0 => ?_
  refine K_seq ?_
  refine K_region ?_
  refine KA (A_box rfl) rfl fun b2 => ?_
  refine KA (A_box rfl) rfl fun b3 => ?_
  refine KA (A_alloc z98) rfl fun b4 => ?_
  refine K_nil ?_
  refine Q_then ?_
  refine K_seq ?_
  refine K_seq ?_
  refine K_region ?_
  refine KV (R_move rfl) rfl ?_
  refine K_nil ?_
  refine Q_then ?_
  refine K_block ?_
  refine K_loop (G := Nat) ⟨fun g => [(2, ptr b2), (3, ptr b3), (4, ptr b4), (6, .int .i64 (g : Int))], fun g => [blk b4 (.cells (setV 0).cells 98 (0, 0)), blk b3 (.cells (setV t).cells 98 (0, 0)), blk b2 (.cells (setV (upto s t g)).cells 98 (0, 0))], fun g => H, fun g => g ≤ 16, fun g => 16 - g⟩ 0 (Nat.zero_le _) ⟨rfl, rfl, rfl, rfl, trivial⟩ (by dsimp only; rw [upto_zero]) rfl ?_
  rintro k hk
  dsimp only at hk ⊢
  refine K_seq ?_
  refine K_region ?_
  refine KV (R_cmp rfl rfl rfl) rfl ?_
  refine K_nil ?_
  refine Q_then ?_
  refine K_seq ?_
  refine K_if rfl (fun h7 => ?_) (fun h7 => ?_)
  ·
    have hk16 : k < 16 := by omega
    refine K_skip ?_
    refine Q_then ?_
    refine K_seq ?_
    refine K_block ?_
    refine K_seq ?_
    refine K_region ?_
    refine KV (R_move rfl) rfl ?_
    refine KV (R_assign rfl) rfl ?_
    refine K_nil ?_
    refine Q_then ?_
    refine K_regionD (fin := true) (R := [0, 1, 2, 3, 4, 5, 6, 7, 8]) (by kernel_rfl) mixed (.cons_cons _ (.cons_cons _ (.cons_cons _ (List.nil_sublist _)))) ?_
    refine D_val rfl rfl rfl (R_move rfl) ?_
    refine D_val rfl rfl rfl (R_indexArr ar98 ty96 rfl rfl ⟨by omega, by omega⟩) ?_
    refine D_val rfl rfl rfl (R_loadC ty96 2 rfl rfl (cells_get (upto s t k) k (by omega) hk16)) ?_
    refine D_val rfl rfl rfl (R_move rfl) ?_
    refine D_val rfl rfl rfl (R_indexArr ar98 ty96 rfl rfl ⟨by omega, by omega⟩) ?_
    refine D_val rfl rfl rfl (R_loadC ty96 1 rfl rfl (cells_get t k (by omega) hk16)) ?_
    refine D_val rfl rfl rfl (R_bitsU rfl rfl (wd_lt _ _) (wd_lt _ _) (.inl ⟨rfl, rfl⟩)) ?_
    refine D_val rfl rfl rfl (R_indexArr ar98 ty96 rfl rfl ⟨by omega, by omega⟩) ?_
    refine D_lastStoreE ty96 2 rfl rfl rfl rfl rfl rfl (cells_fit (upto s t k) k (by omega) hk16) rfl (cells_put (s := upto s t k) (t := upto s t (k + 1)) (k := k) (by omega) hk16 (fun i _ => wd_upto_succ s t k i)) ?_
    refine Q_block ?_
    refine Q_then ?_
    refine K_region ?_
    refine KV (R_add rfl rfl (by omega)) rfl ?_
    refine KV (R_move rfl) rfl ?_
    refine K_nil ?_
    exact Q_next (k + 1) hk16 (by dsimp only; omega) ⟨rfl, rfl, rfl, rfl, trivial⟩ rfl rfl
  ·
    have hk16 : k = 16 := by omega
    subst hk16
    rw [upto_all hs]
    refine K_exit ?_
    refine Q_then_exit ?_
    refine Q_then_exit ?_
    refine Q_block_exit ?_
    refine Q_then ?_
    refine K_seq ?_
    refine K_region ?_
    refine KV (R_loadW ty98 2 rfl rfl rfl rfl) rfl ?_
    refine K_storeW ty98 0 rfl rfl rfl rfl rfl rfl rfl ?_
    refine K_nil ?_
    refine Q_then ?_
    refine K_ret ?_
    refine results_gen (rs := [.cell 4 98]) (vs := [_]) rfl ⟨⟨_, _, _, _, _, _, 0, rfl, rfl, ty98, (fun e => by cases e), rfl, rfl⟩, trivial⟩ ?_
    rfl

theorem of_spec (xs : List Int) (v : Value) (H : View) (hv : SI H v xs) (hb : xs.length ≤ 1099511627776) : Sat Tryd.prog 44 #[v] H (fun v _ => v = setV (ofL xs)) := by
  obtain ⟨a, cap, rfl⟩ := hv.shape
  refine enterO (n := 17) (args := [.slice a xs.length cap]) Tryd.func44 rfl rfl rfl fun w0 => ?_
  refine K_seq ?_
  refine K_region ?_
  refine KA (A_alloc z98) rfl fun b2 => ?_
  refine K_nil ?_
  refine Q_then ?_
  refine K_seq ?_
  refine K_region ?_
  refine KA (A_alloc z98) rfl fun b3 => ?_
  refine K_nil ?_
  refine Q_then ?_
  refine K_seq ?_
  refine K_seq ?_
  refine K_region ?_
  refine KV (R_move rfl) rfl ?_
  refine KV (R_len sl25 rfl) rfl ?_
  refine KV (R_move rfl) rfl ?_
  refine K_nil ?_
  refine Q_then ?_
  refine K_block ?_
  refine K_loop (G := Nat × View) ⟨fun g => [(2, ptr b2), (3, ptr b3), (6, .slice a xs.length cap), (7, .int .i64 xs.length), (8, .int .i64 (g.1 : Int))], fun g => [blk b3 (.cells (setV (ofL (xs.take g.1))).cells 98 (0, 0)), blk b2 (.cells (setV 0).cells 98 (0, 0))], fun g => g.2, fun g => g.1 ≤ xs.length ∧ VLe H g.2, fun g => xs.length - g.1⟩ (0, H) ⟨Nat.zero_le _, VLe.refl H⟩ ⟨rfl, rfl, rfl, rfl, rfl, trivial⟩ rfl rfl ?_
  rintro ⟨k, V⟩ ⟨hk, hV⟩
  dsimp only at hk hV ⊢
  refine K_seq ?_
  refine K_region ?_
  refine KV (R_cmp rfl rfl rfl) rfl ?_
  refine K_nil ?_
  refine Q_then ?_
  refine K_seq ?_
  refine K_if rfl (fun h9 => ?_) (fun h9 => ?_)
  ·
    have hk' : k < xs.length := by omega
    obtain ⟨tb, to_, rfl, hta⟩ := (hv.mono hV).get hk'
    refine K_skip ?_
    refine Q_then ?_
    refine K_seq ?_
    refine K_block ?_
    refine K_seq ?_
    refine K_region ?_
    refine KV (R_indexN sl25 ty3 rfl rfl (by omega)) rfl ?_
    refine KV (R_loadH ty3 rfl (hta) rfl (fun _ => rfl) rfl) rfl ?_
    refine KV (R_assign rfl) rfl ?_
    refine K_nil ?_
    refine Q_then ?_
    refine K_region ?_
    refine KV (R_loadW ty98 0 rfl rfl rfl rfl) rfl ?_
    refine KV (R_move rfl) rfl ?_
    refine K_call c82 rfl rfl (with_spec _ _ V) ?_
    rintro _ V' hle rfl
    refine K_storeW ty98 0 rfl rfl rfl rfl rfl rfl rfl ?_
    refine K_nil ?_
    refine Q_block ?_
    refine Q_then ?_
    refine K_region ?_
    refine KV (R_add rfl rfl (by omega)) rfl ?_
    refine KV (R_move rfl) rfl ?_
    refine K_nil ?_
    exact Q_next (k + 1, V') ⟨hk', hV.trans hle⟩ (by dsimp only; omega) ⟨rfl, rfl, rfl, rfl, rfl, trivial⟩ (by dsimp only; rw [ofL_take xs k hk']; rfl) rfl
  ·
    have hk' : k = xs.length := by omega
    subst hk'
    rw [List.take_length]
    refine K_exit ?_
    refine Q_then_exit ?_
    refine Q_then_exit ?_
    refine Q_block_exit ?_
    refine Q_then ?_
    refine K_seq ?_
    refine K_region ?_
    refine KV (R_loadW ty98 0 rfl rfl rfl rfl) rfl ?_
    refine K_storeW ty98 1 rfl rfl rfl rfl rfl rfl rfl ?_
    refine K_nil ?_
    refine Q_then ?_
    refine K_ret ?_
    refine results_gen (rs := [.cell 2 98]) (vs := [_]) rfl ⟨⟨_, _, _, _, _, _, 1, rfl, rfl, ty98, (fun e => by cases e), rfl, rfl⟩, trivial⟩ ?_
    rfl

theorem tz_spec (x : Nat) (h0 : x ≠ 0) (hx : x < 18446744073709551616) (H : View) (hT : Tab H) : Sat Tryd.prog 117 #[.int .u64 (x : Int)] H (fun v _ => v = .int .i64 ((low x 64 0 : Nat) : Int)) := by
  obtain ⟨g1, _, g3, g4⟩ := low_spec x 64 0 (by obtain ⟨j, h1, h2⟩ := exists_bit h0 (show x < 2 ^ 64 from two64 ▸ hx); exact ⟨j, Nat.zero_le _, by omega, h2⟩)
  generalize low x 64 0 = k at g1 g3 g4 ⊢
  have hk : k < 64 := by omega
  have hlow := lowbit hx g1 (fun j hj => g4 j (Nat.zero_le _) hj)
  have hil := bruijn_lt k
  refine enterO (n := 14) (args := [.int .u64 (x : Int)]) Tryd.func117 rfl rfl rfl fun w0 => ?_
  refine K_seq ?_
  refine K_region ?_
  refine KV (R_assign rfl) rfl ?_
  refine K_nil ?_
  refine Q_then ?_
  refine K_seq ?_
  refine K_seq ?_
  refine K_region ?_
  refine KV (R_move rfl) rfl ?_
  refine KV (R_cmp rfl rfl rfl) rfl ?_
  refine K_nil ?_
  refine Q_then ?_
  refine K_if rfl (fun h4 => ?_) (fun h4 => ?_)
  ·
    exact absurd h4 (by omega)
  ·
    refine K_skip ?_
    refine Q_then ?_
    refine K_seq ?_
    refine K_region ?_
    refine KV (R_move rfl) rfl ?_
    refine KV (R_move rfl) rfl ?_
    refine KV (R_negU rfl (by omega) hx) rfl ?_
    refine KV (R_bitsU rfl rfl hx (by omega) (.inl ⟨rfl, hlow⟩)) rfl ?_
    refine KV (R_mulU (b := 285870213051353865) rfl rfl) rfl ?_
    refine KV (R_shrU (k := 58) rfl rfl (by decide)) rfl ?_
    refine KV (R_indexG (sz := 1) ar155 ty5 rfl ⟨by omega, by omega⟩) rfl ?_
    refine KV (R_loadH ty5 rfl (hT.get hil (bruijn_ok k hk) (by omega)) rfl (fun _ => rfl) rfl) rfl ?_
    refine KV (R_convII (by kernel_rfl) ⟨_, Tryd.underlying5⟩ rfl (wrap64 (by omega))) rfl ?_
    refine KV (R_assign rfl) rfl ?_
    refine K_nil ?_
    refine Q_then ?_
    refine K_ret ?_
    refine results_gen (rs := [.tmp 2]) (vs := [_]) rfl ⟨rfl, trivial⟩ ?_
    rfl

theorem min_spec (s : Nat) (hs : s < big) (H : View) (hT : Tab H) : Sat Tryd.prog 106 #[setV s] H (fun v _ => v = .tuple #[.int .i64 (minS s), .bool (decide (s ≠ 0))]) := by
  refine enterO (n := 19) (args := [setV s]) Tryd.func106 rfl rfl rfl fun w0 => ?_
  refine K_seq ?_
  refine K_region ?_
  refine KA (A_box rfl) rfl fun b1 => ?_
  refine KV (R_assign rfl) rfl ?_
  refine KV (R_assign rfl) rfl ?_
  refine K_nil ?_
  refine Q_then ?_
  refine K_seq ?_
  refine K_seq ?_
  refine K_region ?_
  refine KV (R_loadW ty98 0 rfl rfl rfl rfl) rfl ?_
  refine KV (R_move rfl) rfl ?_
  refine K_nil ?_
  refine Q_then ?_
  refine K_block ?_
  refine K_loop (G := Nat) ⟨fun g => [(1, ptr b1), (6, setV s), (7, .int .i64 (g : Int)), (2, .int .i64 0), (3, .bool false)], fun g => [blk b1 (.cells (setV s).cells 98 (0, 0))], fun g => H, fun g => g ≤ 16 ∧ ∀ i, i < g → wd s i = 0, fun g => 16 - g⟩ 0 ⟨Nat.zero_le _, fun i hi => by omega⟩ ⟨rfl, rfl, rfl, rfl, rfl, trivial⟩ rfl rfl ?_
  rintro k ⟨hk, hz⟩
  dsimp only at hk hz ⊢
  refine K_seq ?_
  refine K_region ?_
  refine KV (R_cmp rfl rfl rfl) rfl ?_
  refine K_nil ?_
  refine Q_then ?_
  refine K_seq ?_
  refine K_if rfl (fun h8 => ?_) (fun h8 => ?_)
  ·
    have hk16 : k < 16 := by omega
    refine K_skip ?_
    refine Q_then ?_
    refine K_seq ?_
    refine K_block ?_
    refine K_seq ?_
    refine K_region ?_
    refine KV (R_move rfl) rfl ?_
    refine KV (R_indexV (i := k) ar98 ty96 rfl rfl hk16 (cells_get s k rfl hk16)) rfl ?_
    refine KV (R_assign rfl) rfl ?_
    refine KV (R_assign rfl) rfl ?_
    refine K_nil ?_
    refine Q_then ?_
    refine K_seq ?_
    refine K_region ?_
    refine KV (R_move rfl) rfl ?_
    refine KV (R_cmp rfl rfl rfl) rfl ?_
    refine K_nil ?_
    refine Q_then ?_
    refine K_if rfl (fun h12 => ?_) (fun h12 => ?_)
    ·
      have hne : wd s k ≠ 0 := by omega
      have hmin := minS_word hk16 hz hne
      have hmin2 := hmin.2.2
      refine K_seq ?_
      refine K_region ?_
      refine KV (R_move rfl) rfl ?_
      refine KV (R_mul rfl rfl (by omega)) rfl ?_
      refine KV (R_move rfl) rfl ?_
      refine K_call c117 rfl rfl (tz_spec _ (by omega) (wd_lt _ _) H hT) ?_
      rintro _ V' hle rfl
      refine KV (R_add rfl rfl (by omega)) rfl ?_
      refine KV (R_assign rfl) rfl ?_
      refine KV (R_assign rfl) rfl ?_
      refine K_nil ?_
      refine Q_then ?_
      refine K_ret ?_
      refine Q_block_ret ?_
      refine Q_then_ret ?_
      refine Q_then_ret ?_
      refine Q_block_ret ?_
      refine Q_then_ret ?_
      refine results_gen (rs := [.tmp 2, .tmp 3]) (vs := [_, _]) rfl ⟨rfl, ⟨rfl, trivial⟩⟩ ?_
      simp only [tupV, hmin.1, decide_eq_true hmin.2.1]
    ·
      have hz2 : ∀ i, i < k + 1 → wd s i = 0 := by
        intro i hi
        by_cases e : i = k
        · subst e; omega
        · exact hz i (by omega)
      refine K_skip ?_
      refine Q_block ?_
      refine Q_then ?_
      refine K_region ?_
      refine KV (R_add rfl rfl (by omega)) rfl ?_
      refine KV (R_move rfl) rfl ?_
      refine K_nil ?_
      exact Q_next (k + 1) ⟨hk16, hz2⟩ (by dsimp only; omega) ⟨rfl, rfl, rfl, rfl, rfl, trivial⟩ rfl rfl
  ·
    have hk16 : k = 16 := by omega
    subst hk16
    refine K_exit ?_
    refine Q_then_exit ?_
    refine Q_then_exit ?_
    refine Q_block_exit ?_
    refine Q_then ?_
    refine K_seq ?_
    refine K_region ?_
    refine KV (R_assign rfl) rfl ?_
    refine KV (R_assign rfl) rfl ?_
    refine K_nil ?_
    refine Q_then ?_
    refine K_ret ?_
    refine results_gen (rs := [.tmp 2, .tmp 3]) (vs := [_, _]) rfl ⟨rfl, ⟨rfl, trivial⟩⟩ ?_
    rw [zero_of_words hs hz]
    rfl

theorem all_spec (s : Nat) (H : View) : Sat Tryd.prog 81 #[setV s] H (fun v H' => ∃ b, v = .func (.func 105) #[] #[ptr b] ∧ At H' b 0 (setL s)) := by
  refine enterO (n := 4) (args := [setV s]) Tryd.func81 rfl rfl rfl fun w0 => ?_
  refine K_seq ?_
  refine K_region ?_
  refine KA (A_box rfl) rfl fun b1 => ?_
  refine KV (R_assign rfl) rfl ?_
  refine K_nil ?_
  refine Q_then ?_
  refine K_seq ?_
  refine K_region ?_
  refine KV (R_makeFunc rfl rfl) rfl ?_
  refine KV (R_assign rfl) rfl ?_
  refine K_nil ?_
  refine Q_then ?_
  refine K_ret ?_
  refine KQ_publish (by simp [feet]) ?_
  refine results_gen (rs := [.tmp 2]) (vs := [_]) rfl ⟨rfl, trivial⟩ ?_
  exact ⟨b1, rfl, _, 98, (0, 0), vadd_self _ _ _, fun j v h => by simpa [setV, Value.cells] using h⟩

theorem alliter_spec (s b L : Nat) (hs : s < big) (E : List Value → HL → Prop) (p0 : HL) (hp0 : E [] p0) (hY : Pal.Yields Tryd.prog L ((els s).map (.int .i64)) E) (H : View) (hT : Tab H) (hb : At H b 0 (setL s)) :
    SatO Tryd.prog 105 #[.func (.yield L) #[] #[], ptr b] H p0 (fun _ _ q => E ((els s).map (.int .i64)) q) := by
  refine enterO (n := 25) (args := [.func (.yield L) #[] #[], ptr b]) Tryd.func105 rfl rfl rfl fun w0 => ?_
  refine K_seq ?_
  refine K_region ?_
  refine KV (R_loadH ty98 rfl (hb) rfl (fun e => by cases e) rfl) rfl ?_
  refine KA (A_alloc z98) rfl fun b3 => ?_
  refine K_storeW ty98 0 rfl rfl rfl rfl rfl rfl rfl ?_
  refine K_nil ?_
  refine Q_then ?_
  refine K_seq ?_
  refine K_region ?_
  refine KV (R_loadW ty98 0 rfl rfl rfl rfl) rfl ?_
  refine K_call c106 rfl rfl (min_spec s hs H hT) ?_
  rintro _ V' hle rfl
  refine KV (R_move rfl) rfl ?_
  refine KV (R_extract rfl rfl) rfl ?_
  refine KV (R_extract rfl rfl) rfl ?_
  refine KV (R_assign rfl) rfl ?_
  refine KV (R_assign rfl) rfl ?_
  refine K_nil ?_
  refine Q_then ?_
  refine K_block ?_
  refine K_loop (G := List Value × Nat × View × HL) ⟨fun g => [(0, .func (.yield L) #[] #[]), (3, ptr b3), (4, .int .i64 (minS g.2.1)), (5, .bool (decide (g.2.1 ≠ 0)))], fun g => blk b3 (.cells (setV g.2.1).cells 98 (0, 0)) :: g.2.2.2, fun g => g.2.2.1, fun g => g.2.1 < big ∧ g.1 ++ (els g.2.1).map (.int .i64) = (els s).map (.int .i64) ∧ VLe H g.2.2.1 ∧ E g.1 g.2.2.2, fun g => (els g.2.1).length⟩ ([], s, V', p0) ⟨hs, (by dsimp only; rw [List.nil_append]), hle, hp0⟩ ⟨rfl, rfl, rfl, rfl, trivial⟩ rfl rfl ?_
  rintro ⟨pre, u, V, p⟩ ⟨hu, hpre, hV, hE⟩
  dsimp only at hu hpre hV hE ⊢
  refine K_seq ?_
  refine K_seq ?_
  refine K_region ?_
  refine KV (R_move rfl) rfl ?_
  refine K_nil ?_
  refine Q_then ?_
  refine K_if rfl (fun h12 => ?_) (fun h12 => ?_)
  ·
    have hst := els_step hu h12
    have hpf : pre ++ [Value.int .i64 (minS u)] <+: (els s).map (.int .i64) := ⟨(els (clr u (low u 1024 0))).map (.int .i64), by rw [← hpre, hst]; simp⟩
    obtain ⟨_, hlw, _⟩ := zero_or_bit hu h12
    have hcl : (if 0 ≤ minS u ∧ minS u < 1024 then clr u (minS u).toNat else u) = clr u (low u 1024 0) := by
      have hm : minS u = ((low u 1024 0 : Nat) : Int) := by rw [minS, if_neg h12]
      rw [hm, if_pos ⟨by omega, by omega⟩, Int.toNat_natCast]
    refine K_skip ?_
    refine Q_then ?_
    refine K_seq ?_
    refine K_block ?_
    refine K_seq ?_
    refine K_seq ?_
    refine K_regionX ?_
    refine X_val (R_move rfl) rfl ?_
    refine X_val (R_move rfl) rfl ?_
    refine X_yield rfl rfl (List.perm_append_comm (l₁ := [_])) (hY pre _ _ hE hpf) rfl fun V1 q1 hle1 hZ1 => ?_
    refine X_perm (_ :: q1) (List.perm_append_comm (l₂ := [_])) ?_
    refine X_val (R_not rfl) rfl ?_
    refine X_nil ?_
    refine Q_then ?_
    refine K_ifF rfl ?_
    refine K_skip ?_
    refine Q_then ?_
    refine K_region ?_
    refine KV (R_loadW ty98 0 rfl rfl rfl rfl) rfl ?_
    refine KV (R_move rfl) rfl ?_
    refine K_call c107 rfl rfl (without_spec _ _ V1) ?_
    rintro _ V2 hle2 rfl
    rw [hcl]
    refine K_storeW ty98 0 rfl rfl rfl rfl rfl rfl rfl ?_
    refine K_nil ?_
    refine Q_block ?_
    refine Q_then ?_
    refine K_region ?_
    refine KV (R_loadW ty98 0 rfl rfl rfl rfl) rfl ?_
    refine K_call c106 rfl rfl (min_spec _ (clr_big _ hu) V2 (hT.mono ((hV.trans hle1).trans hle2))) ?_
    rintro _ V'' hle3 rfl
    refine KV (R_move rfl) rfl ?_
    refine KV (R_extract rfl rfl) rfl ?_
    refine KV (R_extract rfl rfl) rfl ?_
    refine KV (R_assign rfl) rfl ?_
    refine KV (R_assign rfl) rfl ?_
    refine K_nil ?_
    exact Q_next (pre ++ [.int .i64 (minS u)], clr u (low u 1024 0), V'', q1) ⟨clr_big _ hu, by rw [← hpre, hst]; simp, (hV.trans hle1).trans (hle2.trans hle3), hZ1⟩ (by dsimp only; rw [hst]; simp) ⟨rfl, rfl, rfl, rfl, trivial⟩ rfl rfl
  ·
    have hu0 : u = 0 := by omega
    subst hu0
    rw [els_zero] at hpre
    simp only [List.map_nil, List.append_nil] at hpre
    refine K_exit ?_
    refine Q_then_exit ?_
    refine Q_then_exit ?_
    refine Q_block_exit ?_
    refine Q_fall ?_
    refine KQ_own _ (List.Sublist.cons _ (List.Sublist.refl _)) ?_
    refine results_gen (rs := []) (vs := []) rfl trivial ?_
    rw [← hpre]; exact hE

theorem collect_spec (gf : Nat) (cap : List Value) (ys : List Int) (hys : ∀ y ∈ ys, i64ok y) (hyl : ys.length ≤ 1099511627776) (H : View) (hcal : callable Tryd.prog gf = true)
    (hit : ∀ L E p, E [] p → Pal.Yields Tryd.prog L (ys.map (.int .i64)) E → SatO Tryd.prog gf ([] ++ [Value.func (.yield L) #[] #[]] ++ cap).toArray H p (fun _ _ q => E (ys.map (.int .i64)) q)) :
    Sat Tryd.prog 104 #[.slice none 0 0, .func (.func gf) #[] cap.toArray] H (fun v H' => SI H' v ys) := by
  refine enterM (n := 13) (args := [.slice none 0 0, .func (.func gf) #[] cap.toArray]) Tryd.func104 rfl rfl rfl fun w0 => ?_
  refine K_seq ?_
  refine K_region ?_
  refine KA (A_box rfl) rfl fun b2 => ?_
  refine KV (R_assign rfl) rfl ?_
  refine K_nil ?_
  refine Q_then ?_
  refine K_seq ?_
  refine K_seq ?_
  refine K_region ?_
  refine KV (R_move rfl) rfl ?_
  refine K_nil ?_
  refine Q_then ?_
  refine K_nilrow 3 1 ?_
  refine K_rangeFunc (p := [row nilS 3 1 0 [], blk b2 (.cells #[.slice none 0 0] 25 (0, 0))]) (r := []) (first := []) (cap := cap)
    (R := fun _ q' => ∃ sv, q' = [row sv 3 1 ys.length (ys.map (.int .i64)), blk b2 (.cells #[sv] 25 (0, 0))]) hcal rfl (List.Perm.refl _) ?_ ?_
  · intro fn D L ρ hm
    refine SatO.mono' (hit L (fun pre q => ∃ sv, q = [blk L (.loop (rec0 fn (fr 13 ρ).tmps #[7] _ _ D)), row sv 3 1 pre.length pre, blk b2 (.cells #[sv] 25 (0, 0))]) _ ⟨nilS, rfl⟩ ?_) ?_
    · rintro pre x p ⟨sv, rfl⟩ hpf
      have hlen : pre.length + 1 ≤ ys.length := by have := hpf.length_le; simpa using this
      obtain ⟨i, rfl⟩ : ∃ i, x = .int .i64 i := by
        have : x ∈ ys.map (Value.int .i64) := hpf.subset (by simp)
        obtain ⟨i, _, rfl⟩ := List.mem_map.1 this
        exact ⟨i, rfl⟩
      refine yok (n := 13) (pt := 7) (ρ0 := ρ) (L1 := [(2, ptr b2), (5, .int .i64 i)]) rfl rfl rfl rfl rfl hm rfl rfl rfl rfl ?_ ?_
      · intro c H
        refine KV (R_assign rfl) rfl ?_
        refine K_nil ?_
        exact Q_out ⟨rfl, rfl, rfl, rfl, trivial⟩
      · intro c H
        refine KV (R_loadO ty25 2 rfl rfl rfl rfl (fun _ => rfl) rfl) rfl ?_
        refine KV (R_move rfl) rfl ?_
        refine KA (A_buildSlice (vs := [_]) sl25 ty3 z3 rfl rfl (by simp [Value.cells]) (by simp) rfl (by decide)) rfl fun b10 => ?_
        refine K_append1 1 ap25 rfl rfl rfl rfl rfl rfl ⟨by omega, by omega⟩ rfl fun a11 k11 hn11 => ?_
        refine K_store ty25 2 rfl rfl rfl rfl rfl rfl ?_
        refine K_nil ?_
        refine KQ_sel [1, 0, 0] rfl ?_
        exact Q_out ⟨_, rfl, .slice a11 (pre.length + 1) k11, by rw [List.length_append]; rfl⟩
    · rintro v H' q ⟨sv, rfl⟩
      exact ⟨_, rfl, sv, by rw [List.length_map]⟩
  · rintro D H' q' hle ⟨sv, rfl⟩ ρ w hm ho
    refine wp_endM (hl := [row sv 3 1 ys.length (ys.map (.int .i64)), blk b2 (.cells #[sv] 25 (0, 0))]) (rs := [.tmp 4]) (vs := [sv])
      (S := fun l hl1 H1 => Pal.look l 4 = some sv ∧ hl1 = [blk D (.deferred (some [])), row sv 3 1 ys.length (ys.map (.int .i64)), blk b2 (.cells #[sv] 25 (0, 0))] ∧ H1 = H') rfl hm ho ?_ ?_
    · refine KV (R_loadO ty25 2 rfl rfl rfl rfl (fun _ => rfl) rfl) rfl ?_
      refine KV (R_assign rfl) rfl ?_
      refine K_nil ?_
      exact Q_out ⟨rfl, rfl, rfl⟩
    · rintro l' hl' H1 ⟨h1, rfl, rfl⟩
      refine ⟨_, [sv], rfl, rfl, ⟨h1, trivial⟩, fun w' ho' => ?_⟩
      obtain ⟨H2, hle2, hrow, ho2⟩ := Ok.pubrow ho' (by simp [feet])
      exact ⟨H2, _, ho2, hrow.sl, hys⟩

theorem collect80_spec (gf : Nat) (cap : List Value) (ys : List Int) (hys : ∀ y ∈ ys, i64ok y) (hyl : ys.length ≤ 1099511627776) (H : View) (hcal : callable Tryd.prog gf = true)
    (hit : ∀ L E p, E [] p → Pal.Yields Tryd.prog L (ys.map (.int .i64)) E → SatO Tryd.prog gf ([] ++ [Value.func (.yield L) #[] #[]] ++ cap).toArray H p (fun _ _ q => E (ys.map (.int .i64)) q)) :
    Sat Tryd.prog 80 #[.func (.func gf) #[] cap.toArray] H (fun v H' => SI H' v ys) := by
  refine enterO (n := 5) (args := [.func (.func gf) #[] cap.toArray]) Tryd.func80 rfl rfl rfl fun w0 => ?_
  refine K_seq ?_
  refine K_region ?_
  refine KV (R_assign rfl) rfl ?_
  refine K_nil ?_
  refine Q_then ?_
  refine K_seq ?_
  refine K_region ?_
  refine KV (R_move rfl) rfl ?_
  refine K_call c104 rfl rfl (collect_spec gf cap ys hys hyl H hcal hit) ?_
  rintro u V' hle hu
  refine KV (R_assign rfl) rfl ?_
  refine K_nil ?_
  refine Q_then ?_
  refine K_ret ?_
  refine results_gen (rs := [.tmp 2]) (vs := [_]) rfl ⟨rfl, trivial⟩ ?_
  exact hu

theorem elements_spec (s : Nat) (hs : s < big) (H : View) (hT : Tab H) : Sat Tryd.prog 43 #[setV s] H (fun v H' => SI H' v (els s)) := by
  refine enterO (n := 6) (args := [setV s]) Tryd.func43 rfl rfl rfl fun w0 => ?_
  refine K_seq ?_
  refine K_region ?_
  refine KA (A_box rfl) rfl fun b1 => ?_
  refine KV (R_assign rfl) rfl ?_
  refine K_nil ?_
  refine Q_then ?_
  refine K_seq ?_
  refine K_region ?_
  refine KV (R_loadW ty98 0 rfl rfl rfl rfl) rfl ?_
  refine K_call c81 rfl rfl (all_spec s H) ?_
  rintro _ V' hle ⟨b, rfl, hb⟩
  refine K_call c80 rfl rfl (collect80_spec 105 [ptr b] (els s) (els_ok s) (els_len s) V' c105 (fun L E p hE hY => alliter_spec s b L hs E p hE hY V' (hT.mono hle) hb)) ?_
  rintro u V'' hle2 hu
  refine KV (R_assign rfl) rfl ?_
  refine K_nil ?_
  refine Q_then ?_
  refine K_ret ?_
  refine results_gen (rs := [.tmp 2]) (vs := [_]) rfl ⟨rfl, trivial⟩ ?_
  exact hu
end Go.Proofs.X
