/-
  Part of the proof: contracts of the functions that the statements reach. Own work. No statement of the seat is proved here.
-/
import Derived.Test.YtbelekbnjiajaaaDoorPalYA
import Derived.Test.YtbelekbnjiajaaaDoorProg
namespace Go.Proofs.X
open Go Pal Go.Proofs
attribute [local irreducible] Pal.KO Pal.KC Pal.KQ Pal.KD
theorem ty47 : Ty Tryd.prog 47 false 1 := .of (by kernel_rfl)
theorem ty48 : Ty Tryd.prog 48 false 1 := .of (by kernel_rfl)
theorem ty50 : Ty Tryd.prog 50 true 4 := .of (by kernel_rfl)
theorem ty85 : Ty Tryd.prog 85 true 3 := .of (by kernel_rfl)
theorem ty108 : Ty Tryd.prog 108 false 1 := .of (by kernel_rfl)
theorem sl47 : slcOk Tryd.prog 47 3 := by unfold slcOk; kernel_rfl
theorem sl48 : slcOk Tryd.prog 48 85 := by unfold slcOk; kernel_rfl
theorem fd50_0 : fldOk Tryd.prog 50 0 0 = true := by kernel_rfl
theorem fd50_1 : fldOk Tryd.prog 50 1 1 = true := by kernel_rfl
theorem fd50_2 : fldOk Tryd.prog 50 2 2 = true := by kernel_rfl
theorem fd50_3 : fldOk Tryd.prog 50 3 3 = true := by kernel_rfl
theorem fd85_0 : fldOk Tryd.prog 85 0 0 = true := by kernel_rfl
theorem fd85_1 : fldOk Tryd.prog 85 1 1 = true := by kernel_rfl
theorem fd85_2 : fldOk Tryd.prog 85 2 2 = true := by kernel_rfl
theorem z85 : zeroOk Tryd.prog 85 (.agg #[.int .i64 0, .slice none 0 0, .int .i64 0]) := .of (by kernel_rfl)
theorem z108 : zeroOk Tryd.prog 108 (.nilFunc) := .of (by kernel_rfl)
theorem c24 : callable Tryd.prog 24 = true := by kernel_rfl
theorem c72 : callable Tryd.prog 72 = true := by kernel_rfl
theorem c83 : callable Tryd.prog 83 = true := by kernel_rfl
theorem c84 : callable Tryd.prog 84 = true := by kernel_rfl
theorem c86 : callable Tryd.prog 86 = true := by kernel_rfl
theorem c95 : callable Tryd.prog 95 = true := by kernel_rfl
theorem c96 : callable Tryd.prog 96 = true := by kernel_rfl
theorem c97 : callable Tryd.prog 97 = true := by kernel_rfl
theorem c100 : callable Tryd.prog 100 = true := by kernel_rfl
theorem c101 : callable Tryd.prog 101 = true := by kernel_rfl
theorem c110 : callable Tryd.prog 110 = true := by kernel_rfl
theorem c112 : callable Tryd.prog 112 = true := by kernel_rfl
theorem c113 : callable Tryd.prog 113 = true := by kernel_rfl
theorem siidx_spec (f : Nat) (cap : List Value) (p : Int → Bool) (xs : List Int) (v : Value) (H : View) (hv : SI H v xs) (hl : xs.length ≤ 1099511627776) (hcal : callable Tryd.prog f = true)
    (hp : ∀ x V, x ∈ xs → VLe H V → Sat Tryd.prog f ([] ++ [Value.int .i64 x] ++ cap).toArray V (fun r _ => r = .bool (p x))) :
    Sat Tryd.prog 110 #[v, .func (.func f) #[] cap.toArray] H (fun r _ => ∃ i : Int, r = .int .i64 i ∧ (0 ≤ i ↔ ∃ x ∈ xs, p x = true)) := by
  obtain ⟨a, cp, rfl⟩ := hv.shape
  refine enterO (n := 19) (args := [.slice a xs.length cp, .func (.func f) #[] cap.toArray]) Tryd.func110 rfl rfl rfl fun w0 => ?_
  refine K_seq ?_
  refine K_region ?_
  refine KV (R_assign rfl) rfl ?_
  refine K_nil ?_
  refine Q_then ?_
  refine K_seq ?_
  refine K_seq ?_
  refine K_region ?_
  refine KV (R_move rfl) rfl ?_
  refine KV (R_len sl25 rfl) rfl ?_
  refine KV (R_move rfl) rfl ?_
  refine K_nil ?_
  refine Q_then ?_
  refine K_block ?_
  refine K_loop (G := Nat × View) ⟨fun g => [(0, .slice a xs.length cp), (1, .func (.func f) #[] cap.toArray), (7, .int .i64 xs.length), (8, .int .i64 (g.1 : Int))], fun g => [], fun g => g.2, fun g => g.1 ≤ xs.length ∧ VLe H g.2 ∧ ∀ j (h : j < xs.length), j < g.1 → p xs[j] = false, fun g => xs.length - g.1⟩ (0, H) ⟨Nat.zero_le _, VLe.refl H, fun j _ h => by simp at h⟩ ⟨rfl, rfl, rfl, rfl, trivial⟩ rfl rfl ?_
  rintro ⟨k, V⟩ ⟨hk, hV, hno⟩
  dsimp only at hk hV hno ⊢
  refine K_seq ?_
  refine K_region ?_
  refine KV (R_cmp rfl rfl rfl) rfl ?_
  refine K_nil ?_
  refine Q_then ?_
  refine K_seq ?_
  refine K_if rfl (fun h9 => ?_) (fun h9 => ?_)
  ·
    have hk' : k < xs.length := by omega
    obtain ⟨tb, to_, rfl, hta⟩ := (hv.mono hV).get hk'
    refine K_skip ?_
    refine Q_then ?_
    refine K_seq ?_
    refine K_block ?_
    refine K_seq ?_
    refine K_region ?_
    refine KV (R_move rfl) rfl ?_
    refine KV (R_assign rfl) rfl ?_
    refine K_nil ?_
    refine Q_then ?_
    refine K_seq ?_
    refine K_region ?_
    refine KV (R_move rfl) rfl ?_
    refine KV (R_move rfl) rfl ?_
    refine KV (R_move rfl) rfl ?_
    refine KV (R_indexN sl25 ty3 rfl rfl (by omega)) rfl ?_
    refine KV (R_loadH ty3 rfl (hta) rfl (fun _ => rfl) rfl) rfl ?_
    refine K_callO (first := []) [] [] (List.Perm.refl _) hcal rfl rfl rfl (hp xs[k] V (List.getElem_mem hk') hV) ?_
    rintro _ V' q hle rfl
    refine KO_own [] (List.nil_sublist _) ?_
    refine K_nil ?_
    refine Q_then ?_
    refine K_ifB rfl (fun h16 => ?_) (fun h16 => ?_)
    ·
      refine K_seq ?_
      refine K_region ?_
      refine KV (R_move rfl) rfl ?_
      refine KV (R_assign rfl) rfl ?_
      refine K_nil ?_
      refine Q_then ?_
      refine K_ret ?_
      refine Q_block_ret ?_
      refine Q_then_ret ?_
      refine Q_then_ret ?_
      refine Q_block_ret ?_
      refine Q_then_ret ?_
      refine results_gen (rs := [.tmp 4]) (vs := [_]) rfl ⟨rfl, trivial⟩ ?_
      exact ⟨k, rfl, ⟨fun _ => ⟨_, List.getElem_mem hk', h16⟩, fun _ => by omega⟩⟩
    ·
      have hno2 : ∀ j (h : j < xs.length), j < k + 1 → p xs[j] = false := by
        intro j h hj
        by_cases e : j = k
        · subst e; exact h16
        · exact hno j h (by omega)
      refine K_skip ?_
      refine Q_block ?_
      refine Q_then ?_
      refine K_region ?_
      refine KV (R_add rfl rfl (by omega)) rfl ?_
      refine KV (R_move rfl) rfl ?_
      refine K_nil ?_
      exact Q_next (k + 1, V') ⟨hk', hV.trans hle, hno2⟩ (by dsimp only; omega) ⟨rfl, rfl, rfl, rfl, trivial⟩ rfl rfl
  ·
    have hk' : k = xs.length := by omega
    refine K_exit ?_
    refine Q_then_exit ?_
    refine Q_then_exit ?_
    refine Q_block_exit ?_
    refine Q_then ?_
    refine K_seq ?_
    refine K_region ?_
    refine KV (R_assign rfl) rfl ?_
    refine K_nil ?_
    refine Q_then ?_
    refine K_ret ?_
    refine results_gen (rs := [.tmp 4]) (vs := [_]) rfl ⟨rfl, trivial⟩ ?_
    refine ⟨-1, rfl, ⟨fun h => by omega, ?_⟩⟩
    rintro ⟨x, hx, hpx⟩
    obtain ⟨j, hj, rfl⟩ := List.getElem_of_mem hx
    rw [hno j hj (by omega)] at hpx; cases hpx

theorem sicon_spec (f : Nat) (cap : List Value) (p : Int → Bool) (xs : List Int) (v : Value) (H : View) (hv : SI H v xs) (hl : xs.length ≤ 1099511627776) (hcal : callable Tryd.prog f = true)
    (hp : ∀ x V, x ∈ xs → VLe H V → Sat Tryd.prog f ([] ++ [Value.int .i64 x] ++ cap).toArray V (fun r _ => r = .bool (p x))) :
    Sat Tryd.prog 86 #[v, .func (.func f) #[] cap.toArray] H (fun r _ => r = .bool (xs.any p)) := by
  obtain ⟨a, cp, rfl⟩ := hv.shape
  refine enterO (n := 9) (args := [.slice a xs.length cp, .func (.func f) #[] cap.toArray]) Tryd.func86 rfl rfl rfl fun w0 => ?_
  refine K_seq ?_
  refine K_region ?_
  refine KV (R_assign rfl) rfl ?_
  refine K_nil ?_
  refine Q_then ?_
  refine K_seq ?_
  refine K_region ?_
  refine KV (R_move rfl) rfl ?_
  refine KV (R_move rfl) rfl ?_
  refine K_call c110 rfl rfl (siidx_spec f cap p xs _ H hv hl hcal hp) ?_
  rintro _ V' hle ⟨i, rfl, hi⟩
  refine KV (R_cmp rfl rfl rfl) rfl ?_
  refine KV (R_assign rfl) rfl ?_
  refine K_nil ?_
  refine Q_then ?_
  refine K_ret ?_
  refine results_gen (rs := [.tmp 4]) (vs := [_]) rfl ⟨rfl, trivial⟩ ?_
  refine congrArg Value.bool ?_
  by_cases h : 0 ≤ i
  · rw [decide_eq_true h]; exact (List.any_eq_true.2 (hi.1 h)).symm
  · rw [decide_eq_false h]; exact (Bool.eq_false_iff.2 fun h2 => h (hi.2 (List.any_eq_true.1 h2))).symm

theorem saidx_spec (f : Nat) (cap : List Value) (p : Int → Bool) (xs : List Int) (v : Value) (H : View) (hv : SI H v xs) (hl : xs.length ≤ 1099511627776) (hcal : callable Tryd.prog f = true)
    (hp : ∀ x V, x ∈ xs → VLe H V → Sat Tryd.prog f ([] ++ [Value.int .i64 x] ++ cap).toArray V (fun r _ => r = .bool (p x))) :
    Sat Tryd.prog 112 #[v, .func (.func f) #[] cap.toArray] H (fun r _ => ∃ i : Int, r = .int .i64 i ∧ (0 ≤ i ↔ ∃ x ∈ xs, p x = true)) := by
  obtain ⟨a, cp, rfl⟩ := hv.shape
  refine enterO (n := 19) (args := [.slice a xs.length cp, .func (.func f) #[] cap.toArray]) Tryd.func112 rfl rfl rfl fun w0 => ?_
  refine K_seq ?_
  refine K_region ?_
  refine KV (R_assign rfl) rfl ?_
  refine K_nil ?_
  refine Q_then ?_
  refine K_seq ?_
  refine K_seq ?_
  refine K_region ?_
  refine KV (R_move rfl) rfl ?_
  refine KV (R_len sl47 rfl) rfl ?_
  refine KV (R_move rfl) rfl ?_
  refine K_nil ?_
  refine Q_then ?_
  refine K_block ?_
  refine K_loop (G := Nat × View) ⟨fun g => [(0, .slice a xs.length cp), (1, .func (.func f) #[] cap.toArray), (7, .int .i64 xs.length), (8, .int .i64 (g.1 : Int))], fun g => [], fun g => g.2, fun g => g.1 ≤ xs.length ∧ VLe H g.2 ∧ ∀ j (h : j < xs.length), j < g.1 → p xs[j] = false, fun g => xs.length - g.1⟩ (0, H) ⟨Nat.zero_le _, VLe.refl H, fun j _ h => by simp at h⟩ ⟨rfl, rfl, rfl, rfl, trivial⟩ rfl rfl ?_
  rintro ⟨k, V⟩ ⟨hk, hV, hno⟩
  dsimp only at hk hV hno ⊢
  refine K_seq ?_
  refine K_region ?_
  refine KV (R_cmp rfl rfl rfl) rfl ?_
  refine K_nil ?_
  refine Q_then ?_
  refine K_seq ?_
  refine K_if rfl (fun h9 => ?_) (fun h9 => ?_)
  ·
    have hk' : k < xs.length := by omega
    obtain ⟨tb, to_, rfl, hta⟩ := (hv.mono hV).get hk'
    refine K_skip ?_
    refine Q_then ?_
    refine K_seq ?_
    refine K_block ?_
    refine K_seq ?_
    refine K_region ?_
    refine KV (R_move rfl) rfl ?_
    refine KV (R_assign rfl) rfl ?_
    refine K_nil ?_
    refine Q_then ?_
    refine K_seq ?_
    refine K_region ?_
    refine KV (R_move rfl) rfl ?_
    refine KV (R_move rfl) rfl ?_
    refine KV (R_move rfl) rfl ?_
    refine KV (R_indexN sl47 ty3 rfl rfl (by omega)) rfl ?_
    refine KV (R_loadH ty3 rfl (hta) rfl (fun _ => rfl) rfl) rfl ?_
    refine K_callO (first := []) [] [] (List.Perm.refl _) hcal rfl rfl rfl (hp xs[k] V (List.getElem_mem hk') hV) ?_
    rintro _ V' q hle rfl
    refine KO_own [] (List.nil_sublist _) ?_
    refine K_nil ?_
    refine Q_then ?_
    refine K_ifB rfl (fun h16 => ?_) (fun h16 => ?_)
    ·
      refine K_seq ?_
      refine K_region ?_
      refine KV (R_move rfl) rfl ?_
      refine KV (R_assign rfl) rfl ?_
      refine K_nil ?_
      refine Q_then ?_
      refine K_ret ?_
      refine Q_block_ret ?_
      refine Q_then_ret ?_
      refine Q_then_ret ?_
      refine Q_block_ret ?_
      refine Q_then_ret ?_
      refine results_gen (rs := [.tmp 4]) (vs := [_]) rfl ⟨rfl, trivial⟩ ?_
      exact ⟨k, rfl, ⟨fun _ => ⟨_, List.getElem_mem hk', h16⟩, fun _ => by omega⟩⟩
    ·
      have hno2 : ∀ j (h : j < xs.length), j < k + 1 → p xs[j] = false := by
        intro j h hj
        by_cases e : j = k
        · subst e; exact h16
        · exact hno j h (by omega)
      refine K_skip ?_
      refine Q_block ?_
      refine Q_then ?_
      refine K_region ?_
      refine KV (R_add rfl rfl (by omega)) rfl ?_
      refine KV (R_move rfl) rfl ?_
      refine K_nil ?_
      exact Q_next (k + 1, V') ⟨hk', hV.trans hle, hno2⟩ (by dsimp only; omega) ⟨rfl, rfl, rfl, rfl, trivial⟩ rfl rfl
  ·
    have hk' : k = xs.length := by omega
    refine K_exit ?_
    refine Q_then_exit ?_
    refine Q_then_exit ?_
    refine Q_block_exit ?_
    refine Q_then ?_
    refine K_seq ?_
    refine K_region ?_
    refine KV (R_assign rfl) rfl ?_
    refine K_nil ?_
    refine Q_then ?_
    refine K_ret ?_
    refine results_gen (rs := [.tmp 4]) (vs := [_]) rfl ⟨rfl, trivial⟩ ?_
    refine ⟨-1, rfl, ⟨fun h => by omega, ?_⟩⟩
    rintro ⟨x, hx, hpx⟩
    obtain ⟨j, hj, rfl⟩ := List.getElem_of_mem hx
    rw [hno j hj (by omega)] at hpx; cases hpx

theorem sacon_spec (f : Nat) (cap : List Value) (p : Int → Bool) (xs : List Int) (v : Value) (H : View) (hv : SI H v xs) (hl : xs.length ≤ 1099511627776) (hcal : callable Tryd.prog f = true)
    (hp : ∀ x V, x ∈ xs → VLe H V → Sat Tryd.prog f ([] ++ [Value.int .i64 x] ++ cap).toArray V (fun r _ => r = .bool (p x))) :
    Sat Tryd.prog 95 #[v, .func (.func f) #[] cap.toArray] H (fun r _ => r = .bool (xs.any p)) := by
  obtain ⟨a, cp, rfl⟩ := hv.shape
  refine enterO (n := 9) (args := [.slice a xs.length cp, .func (.func f) #[] cap.toArray]) Tryd.func95 rfl rfl rfl fun w0 => ?_
  refine K_seq ?_
  refine K_region ?_
  refine KV (R_assign rfl) rfl ?_
  refine K_nil ?_
  refine Q_then ?_
  refine K_seq ?_
  refine K_region ?_
  refine KV (R_move rfl) rfl ?_
  refine KV (R_move rfl) rfl ?_
  refine K_call c112 rfl rfl (saidx_spec f cap p xs _ H hv hl hcal hp) ?_
  rintro _ V' hle ⟨i, rfl, hi⟩
  refine KV (R_cmp rfl rfl rfl) rfl ?_
  refine KV (R_assign rfl) rfl ?_
  refine K_nil ?_
  refine Q_then ?_
  refine K_ret ?_
  refine results_gen (rs := [.tmp 4]) (vs := [_]) rfl ⟨rfl, trivial⟩ ?_
  refine congrArg Value.bool ?_
  by_cases h : 0 ≤ i
  · rw [decide_eq_true h]; exact (List.any_eq_true.2 (hi.1 h)).symm
  · rw [decide_eq_false h]; exact (Bool.eq_false_iff.2 fun h2 => h (hi.2 (List.any_eq_true.1 h2))).symm

theorem rank_spec (x : Int) (H : View) : Sat Tryd.prog 96 #[.int .i64 x] H (fun v _ => v = .bool (decide (x < 0 ∨ 2 < x))) := by
  refine enterO (n := 9) (args := [.int .i64 x]) Tryd.func96 rfl rfl rfl fun w0 => ?_
  refine K_seq ?_
  refine K_region ?_
  refine KV (R_assign rfl) rfl ?_
  refine K_nil ?_
  refine Q_then ?_
  refine K_seq ?_
  refine K_region ?_
  refine KV (R_move rfl) rfl ?_
  refine KV (R_cmp rfl rfl rfl) rfl ?_
  refine KV (R_move rfl) rfl ?_
  refine K_split ?_ ?_
  ·
    intro h5
    refine K_gno rfl rfl rfl rfl ?_
    refine K_gno rfl rfl rfl rfl ?_
    refine KV (R_pickT rfl rfl) rfl ?_
    refine KV (R_assign rfl) rfl ?_
    refine K_nil ?_
    refine Q_then ?_
    refine K_ret ?_
    refine results_gen (rs := [.tmp 2]) (vs := [_]) rfl ⟨rfl, trivial⟩ ?_
    simp [tupV, h5]
  ·
    intro h5
    refine K_gyes rfl rfl ?_
    refine KV (R_move rfl) rfl ?_
    refine K_gyes rfl rfl ?_
    refine KV (R_cmp rfl rfl rfl) rfl ?_
    refine KV (R_pickF rfl rfl) rfl ?_
    refine KV (R_assign rfl) rfl ?_
    refine K_nil ?_
    refine Q_then ?_
    refine K_ret ?_
    refine results_gen (rs := [.tmp 2]) (vs := [_]) rfl ⟨rfl, trivial⟩ ?_
    simp [tupV, h5]

theorem idx_spec (y : Int) (xs : List Int) (v : Value) (H : View) (hv : SI H v xs) (hl : xs.length ≤ 1099511627776) : Sat Tryd.prog 113 #[v, .int .i64 y] H (fun r _ => ∃ i : Int, r = .int .i64 i ∧ (0 ≤ i ↔ y ∈ xs)) := by
  obtain ⟨a, cp, rfl⟩ := hv.shape
  refine enterO (n := 19) (args := [.slice a xs.length cp, .int .i64 y]) Tryd.func113 rfl rfl rfl fun w0 => ?_
  refine K_seq ?_
  refine K_region ?_
  refine KV (R_assign rfl) rfl ?_
  refine K_nil ?_
  refine Q_then ?_
  refine K_seq ?_
  refine K_seq ?_
  refine K_region ?_
  refine KV (R_move rfl) rfl ?_
  refine KV (R_len sl47 rfl) rfl ?_
  refine KV (R_move rfl) rfl ?_
  refine K_nil ?_
  refine Q_then ?_
  refine K_block ?_
  refine K_loop (G := Nat) ⟨fun g => [(0, .slice a xs.length cp), (1, .int .i64 y), (7, .int .i64 xs.length), (8, .int .i64 (g : Int))], fun g => [], fun g => H, fun g => g ≤ xs.length ∧ ∀ j (h : j < xs.length), j < g → xs[j] ≠ y, fun g => xs.length - g⟩ 0 ⟨Nat.zero_le _, fun j _ h => by simp at h⟩ ⟨rfl, rfl, rfl, rfl, trivial⟩ rfl rfl ?_
  rintro k ⟨hk, hno⟩
  dsimp only at hk hno ⊢
  refine K_seq ?_
  refine K_region ?_
  refine KV (R_cmp rfl rfl rfl) rfl ?_
  refine K_nil ?_
  refine Q_then ?_
  refine K_seq ?_
  refine K_if rfl (fun h9 => ?_) (fun h9 => ?_)
  ·
    have hk' : k < xs.length := by omega
    obtain ⟨tb, to_, rfl, hta⟩ := hv.get hk'
    refine K_skip ?_
    refine Q_then ?_
    refine K_seq ?_
    refine K_block ?_
    refine K_seq ?_
    refine K_region ?_
    refine KV (R_move rfl) rfl ?_
    refine KV (R_assign rfl) rfl ?_
    refine K_nil ?_
    refine Q_then ?_
    refine K_seq ?_
    refine K_region ?_
    refine KV (R_move rfl) rfl ?_
    refine KV (R_move rfl) rfl ?_
    refine KV (R_move rfl) rfl ?_
    refine KV (R_indexN sl47 ty3 rfl rfl (by omega)) rfl ?_
    refine KV (R_loadH ty3 rfl (hta) rfl (fun _ => rfl) rfl) rfl ?_
    refine KV (R_cmp rfl rfl rfl) rfl ?_
    refine K_nil ?_
    refine Q_then ?_
    refine K_if rfl (fun h16 => ?_) (fun h16 => ?_)
    ·
      refine K_seq ?_
      refine K_region ?_
      refine KV (R_move rfl) rfl ?_
      refine KV (R_assign rfl) rfl ?_
      refine K_nil ?_
      refine Q_then ?_
      refine K_ret ?_
      refine Q_block_ret ?_
      refine Q_then_ret ?_
      refine Q_then_ret ?_
      refine Q_block_ret ?_
      refine Q_then_ret ?_
      refine results_gen (rs := [.tmp 4]) (vs := [_]) rfl ⟨rfl, trivial⟩ ?_
      exact ⟨k, rfl, ⟨fun _ => h16 ▸ List.getElem_mem hk', fun _ => by omega⟩⟩
    ·
      have hno2 : ∀ j (h : j < xs.length), j < k + 1 → xs[j] ≠ y := by
        intro j h hj
        by_cases e : j = k
        · subst e; exact fun e => h16 e.symm
        · exact hno j h (by omega)
      refine K_skip ?_
      refine Q_block ?_
      refine Q_then ?_
      refine K_region ?_
      refine KV (R_add rfl rfl (by omega)) rfl ?_
      refine KV (R_move rfl) rfl ?_
      refine K_nil ?_
      exact Q_next (k + 1) ⟨hk', hno2⟩ (by dsimp only; omega) ⟨rfl, rfl, rfl, rfl, trivial⟩ rfl rfl
  ·
    have hk' : k = xs.length := by omega
    refine K_exit ?_
    refine Q_then_exit ?_
    refine Q_then_exit ?_
    refine Q_block_exit ?_
    refine Q_then ?_
    refine K_seq ?_
    refine K_region ?_
    refine KV (R_assign rfl) rfl ?_
    refine K_nil ?_
    refine Q_then ?_
    refine K_ret ?_
    refine results_gen (rs := [.tmp 4]) (vs := [_]) rfl ⟨rfl, trivial⟩ ?_
    refine ⟨-1, rfl, ⟨fun h => by omega, ?_⟩⟩
    intro hx
    obtain ⟨j, hj, e⟩ := List.getElem_of_mem hx
    exact absurd e (hno j hj (by omega))

theorem mem_spec (y : Int) (xs : List Int) (v : Value) (H : View) (hv : SI H v xs) (hl : xs.length ≤ 1099511627776) : Sat Tryd.prog 97 #[v, .int .i64 y] H (fun r _ => r = .bool (decide (y ∈ xs))) := by
  obtain ⟨a, cp, rfl⟩ := hv.shape
  refine enterO (n := 9) (args := [.slice a xs.length cp, .int .i64 y]) Tryd.func97 rfl rfl rfl fun w0 => ?_
  refine K_seq ?_
  refine K_region ?_
  refine KV (R_assign rfl) rfl ?_
  refine K_nil ?_
  refine Q_then ?_
  refine K_seq ?_
  refine K_region ?_
  refine KV (R_move rfl) rfl ?_
  refine KV (R_move rfl) rfl ?_
  refine K_call c113 rfl rfl (idx_spec y xs _ H hv hl) ?_
  rintro _ V' hle ⟨i, rfl, hi⟩
  refine KV (R_cmp rfl rfl rfl) rfl ?_
  refine KV (R_assign rfl) rfl ?_
  refine K_nil ?_
  refine Q_then ?_
  refine K_ret ?_
  refine results_gen (rs := [.tmp 4]) (vs := [_]) rfl ⟨rfl, trivial⟩ ?_
  refine congrArg Value.bool ?_
  simp only [decide_eq_decide]
  exact hi

theorem acheck_spec (xs : List Int) (v : Value) (H : View) (hv : SI H v xs) (hl : xs.length ≤ 1099511627776) : Sat Tryd.prog 72 #[v] H (fun r _ => r = .int .i64 (ranksErr xs)) := by
  obtain ⟨a, cp, rfl⟩ := hv.shape
  refine enterO (n := 19) (args := [.slice a xs.length cp]) Tryd.func72 rfl rfl rfl fun w0 => ?_
  refine K_seq ?_
  refine K_region ?_
  refine KV (R_assign rfl) rfl ?_
  refine K_nil ?_
  refine Q_then ?_
  refine K_seq ?_
  refine K_block ?_
  refine K_seq ?_
  refine K_region ?_
  refine KV (R_move rfl) rfl ?_
  refine KV (R_len sl47 rfl) rfl ?_
  refine KV (R_cmp rfl rfl rfl) rfl ?_
  refine KV (R_move rfl) rfl ?_
  refine K_split ?_ ?_
  ·
    intro h7
    refine K_gno rfl rfl rfl rfl ?_
    refine K_gno rfl rfl rfl rfl ?_
    refine K_gno rfl rfl rfl rfl ?_
    refine KV (R_pickT rfl rfl) rfl ?_
    refine KV (R_assign rfl) rfl ?_
    refine K_nil ?_
    refine Q_then ?_
    refine K_ifT rfl ?_
    refine K_seq ?_
    refine K_region ?_
    refine KV (R_assign rfl) rfl ?_
    refine K_nil ?_
    refine Q_then ?_
    refine K_ret ?_
    refine Q_block_ret ?_
    refine Q_then_ret ?_
    refine results_gen (rs := [.tmp 2]) (vs := [_]) rfl ⟨rfl, trivial⟩ ?_
    simp only [tupV, ranksErr]
    rw [if_pos (.inl h7)]
  ·
    intro h7
    refine K_gyes rfl rfl ?_
    refine KV (R_move rfl) rfl ?_
    refine K_gyes rfl rfl ?_
    refine KV (R_len sl47 rfl) rfl ?_
    refine K_gyes rfl rfl ?_
    refine KV (R_cmp rfl rfl rfl) rfl ?_
    refine KV (R_pickF rfl rfl) rfl ?_
    refine K_split ?_ ?_
    ·
      intro h11
      refine KV (R_assign rfl) rfl ?_
      refine K_nil ?_
      refine Q_then ?_
      refine K_ifT rfl ?_
      refine K_seq ?_
      refine K_region ?_
      refine KV (R_assign rfl) rfl ?_
      refine K_nil ?_
      refine Q_then ?_
      refine K_ret ?_
      refine Q_block_ret ?_
      refine Q_then_ret ?_
      refine results_gen (rs := [.tmp 2]) (vs := [_]) rfl ⟨rfl, trivial⟩ ?_
      simp only [tupV, ranksErr]
      rw [if_pos (.inr h11)]
    ·
      intro h11
      refine KV (R_assign rfl) rfl ?_
      refine K_nil ?_
      refine Q_then ?_
      refine K_ifF rfl ?_
      refine K_seq ?_
      refine K_region ?_
      refine KV (R_move rfl) rfl ?_
      refine K_call c95 rfl rfl (sacon_spec 96 [] (fun x => decide (x < 0 ∨ 2 < x)) xs _ H hv hl c96 (fun x V _ _ => rank_spec x V)) ?_
      rintro _ V1 hle1 rfl
      refine KV (R_assign rfl) rfl ?_
      refine K_nil ?_
      refine Q_then ?_
      refine K_ifB rfl (fun h12 => ?_) (fun h12 => ?_)
      ·
        refine K_seq ?_
        refine K_region ?_
        refine KV (R_assign rfl) rfl ?_
        refine K_nil ?_
        refine Q_then ?_
        refine K_ret ?_
        refine Q_block_ret ?_
        refine Q_then_ret ?_
        refine results_gen (rs := [.tmp 2]) (vs := [_]) rfl ⟨rfl, trivial⟩ ?_
        simp only [tupV, ranksErr]
        rw [if_neg (by omega), if_pos h12]
      ·
        refine K_seq ?_
        refine K_region ?_
        refine KV (R_move rfl) rfl ?_
        refine K_call c97 rfl rfl (mem_spec 0 xs _ V1 (hv.mono hle1) hl) ?_
        rintro _ V2 hle2 rfl
        refine KV (R_notP rfl) rfl ?_
        refine KV (R_assign rfl) rfl ?_
        refine K_nil ?_
        refine Q_then ?_
        refine K_if rfl (fun h15 => ?_) (fun h15 => ?_)
        ·
          refine K_seq ?_
          refine K_region ?_
          refine KV (R_assign rfl) rfl ?_
          refine K_nil ?_
          refine Q_then ?_
          refine K_ret ?_
          refine Q_block_ret ?_
          refine Q_then_ret ?_
          refine results_gen (rs := [.tmp 2]) (vs := [_]) rfl ⟨rfl, trivial⟩ ?_
          simp only [tupV, ranksErr]
          rw [if_neg (by omega), if_neg (by rw [h12]; simp), if_pos h15]
        ·
          refine K_skip ?_
          refine Q_block ?_
          refine Q_then ?_
          refine K_seq ?_
          refine K_region ?_
          refine KV (R_assign rfl) rfl ?_
          refine K_nil ?_
          refine Q_then ?_
          refine K_ret ?_
          refine results_gen (rs := [.tmp 2]) (vs := [_]) rfl ⟨rfl, trivial⟩ ?_
          simp only [tupV, ranksErr]
          rw [if_neg (by omega), if_neg (by rw [h12]; simp), if_neg h15]

theorem nhas_spec (vr vu vf : Value) (n q : Int) (H : View) : Sat Tryd.prog 101 #[.agg #[vr, .int .i64 n, vu, vf], .int .i64 q] H (fun r _ => r = .bool (decide (0 ≤ q ∧ q < n))) := by
  refine enterO (n := 13) (args := [.agg #[vr, .int .i64 n, vu, vf], .int .i64 q]) Tryd.func101 rfl rfl rfl fun w0 => ?_
  refine K_seq ?_
  refine K_region ?_
  refine KA (A_box rfl) rfl fun b2 => ?_
  refine KV (R_assign rfl) rfl ?_
  refine K_nil ?_
  refine Q_then ?_
  refine K_seq ?_
  refine K_region ?_
  refine KV (R_move rfl) rfl ?_
  refine KV (R_cmp rfl rfl rfl) rfl ?_
  refine KV (R_move rfl) rfl ?_
  refine K_split ?_ ?_
  ·
    intro h7
    refine K_gyes rfl rfl ?_
    refine KV (R_move rfl) rfl ?_
    refine K_gyes rfl rfl ?_
    refine KV (R_fieldAddr 1 fd50_1 rfl) rfl ?_
    refine K_gyes rfl rfl ?_
    refine KV (R_loadO ty3 0 rfl rfl rfl rfl (fun _ => rfl) rfl) rfl ?_
    refine K_gyes rfl rfl ?_
    refine KV (R_cmp rfl rfl rfl) rfl ?_
    refine KV (R_pickT rfl rfl) rfl ?_
    refine KV (R_assign rfl) rfl ?_
    refine K_nil ?_
    refine Q_then ?_
    refine K_ret ?_
    refine results_gen (rs := [.tmp 4]) (vs := [_]) rfl ⟨rfl, trivial⟩ ?_
    simp [tupV, h7]
  ·
    intro h7
    refine K_gno rfl rfl rfl rfl ?_
    refine K_gno rfl rfl rfl rfl ?_
    refine K_gno rfl rfl rfl rfl ?_
    refine K_gno rfl rfl rfl rfl ?_
    refine KV (R_pickF rfl rfl) rfl ?_
    refine KV (R_assign rfl) rfl ?_
    refine K_nil ?_
    refine Q_then ?_
    refine K_ret ?_
    refine results_gen (rs := [.tmp 4]) (vs := [_]) rfl ⟨rfl, trivial⟩ ?_
    simp [tupV, h7]

theorem nbad_spec (vr vu vf : Value) (n : Int) (b : Nat) (q : Int) (H : View) (hb : At H b 0 [vr, .int .i64 n, vu, vf]) : Sat Tryd.prog 100 #[.int .i64 q, ptr b] H (fun r _ => r = .bool (badQ n q)) := by
  refine enterO (n := 8) (args := [.int .i64 q, ptr b]) Tryd.func100 rfl rfl rfl fun w0 => ?_
  refine K_seq ?_
  refine K_region ?_
  refine KV (R_assign rfl) rfl ?_
  refine K_nil ?_
  refine Q_then ?_
  refine K_seq ?_
  refine K_region ?_
  refine KV (R_loadH ty50 rfl (hb) rfl (fun e => by cases e) rfl) rfl ?_
  refine KV (R_move rfl) rfl ?_
  refine K_call c101 rfl rfl (nhas_spec vr vu vf n q H) ?_
  rintro _ V' hle rfl
  refine KV (R_not rfl) rfl ?_
  refine KV (R_assign rfl) rfl ?_
  refine K_nil ?_
  refine Q_then ?_
  refine K_ret ?_
  refine results_gen (rs := [.tmp 3]) (vs := [_]) rfl ⟨rfl, trivial⟩ ?_
  rfl

theorem ncheck_spec (a : Au) (vr vu vf : Value) (H : View) (ha : RepAu H a vr vu vf) : Sat Tryd.prog 77 #[.agg #[vr, .int .i64 a.states, vu, vf]] H (fun r _ => r = .int .i64 (auErr a)) := by
  obtain ⟨ra, rcp, rfl⟩ := ha.r.shape
  obtain ⟨fa, fcp, rfl⟩ := ha.f.shape
  obtain ⟨ua, ucp, rfl⟩ := ha.ushape
  have hrl := ha.rl
  have hul := ha.ul
  have hfl := ha.fl
  refine enterO (n := 74) (args := [.agg #[.slice ra a.ranks.length rcp, .int .i64 a.states, .slice ua a.rules.length ucp, .slice fa a.final.length fcp]]) Tryd.func77 rfl rfl rfl fun w0 => ?_
  refine K_seq ?_
  refine K_region ?_
  refine KA (A_box rfl) rfl fun b1 => ?_
  refine KV (R_assign rfl) rfl ?_
  refine K_nil ?_
  refine KQ_pubblk (by intro x hx; simp [feet] at hx) fun V0 hle0 hb1 => ?_
  have hA := At.of hb1
  have hA0 := hA.one (j := 0) rfl
  have hA1 := hA.one (j := 1) rfl
  have hA2 := hA.one (j := 2) rfl
  have hA3 := hA.one (j := 3) rfl
  refine Q_then ?_
  refine K_seq ?_
  refine K_seq ?_
  refine K_region ?_
  refine KV (R_fieldAddr 0 fd50_0 rfl) rfl ?_
  refine KV (R_loadH ty47 rfl (hA0) rfl (fun _ => rfl) rfl) rfl ?_
  refine K_call c72 rfl rfl (acheck_spec a.ranks _ V0 (ha.r.mono hle0) hrl) ?_
  rintro _ V1 hle1 rfl
  refine KV (R_assign rfl) rfl ?_
  refine K_nil ?_
  refine Q_then ?_
  refine K_seq ?_
  refine K_region ?_
  refine KV (R_move rfl) rfl ?_
  refine KV (R_cmp rfl rfl rfl) rfl ?_
  refine K_nil ?_
  refine Q_then ?_
  refine K_if rfl (fun h11 => ?_) (fun h11 => ?_)
  ·
    refine K_seq ?_
    refine K_region ?_
    refine KV (R_move rfl) rfl ?_
    refine KV (R_assign rfl) rfl ?_
    refine K_nil ?_
    refine Q_then ?_
    refine K_ret ?_
    refine Q_then_ret ?_
    refine results_gen (rs := [.tmp 2]) (vs := [_]) rfl ⟨rfl, trivial⟩ ?_
    simp only [tupV, auErr]
    rw [if_pos h11]
  ·
    refine K_skip ?_
    refine Q_then ?_
    refine K_seq ?_
    refine K_seq ?_
    refine K_region ?_
    refine KV (R_fieldAddr 1 fd50_1 rfl) rfl ?_
    refine KV (R_loadH ty3 rfl (hA1.mono hle1) rfl (fun _ => rfl) rfl) rfl ?_
    refine KV (R_cmp rfl rfl rfl) rfl ?_
    refine KV (R_move rfl) rfl ?_
    refine K_split ?_ ?_
    ·
      intro h16
      refine K_gno rfl rfl rfl rfl ?_
      refine K_gno rfl rfl rfl rfl ?_
      refine K_gno rfl rfl rfl rfl ?_
      refine KV (R_pickT rfl rfl) rfl ?_
      refine KV (R_move rfl) rfl ?_
      refine K_gno rfl rfl rfl rfl ?_
      refine K_gno rfl rfl rfl rfl ?_
      refine K_gno rfl rfl rfl rfl ?_
      refine K_gno rfl rfl rfl rfl ?_
      refine KV (R_pickT rfl rfl) rfl ?_
      refine K_nil ?_
      refine Q_then ?_
      refine K_ifT rfl ?_
      refine K_seq ?_
      refine K_region ?_
      refine KV (R_assign rfl) rfl ?_
      refine K_nil ?_
      refine Q_then ?_
      refine K_ret ?_
      refine Q_then_ret ?_
      refine results_gen (rs := [.tmp 2]) (vs := [_]) rfl ⟨rfl, trivial⟩ ?_
      simp only [tupV, auErr]
      rw [if_neg h11, if_pos (.inl h16)]
    ·
      intro h16
      refine K_gyes rfl rfl ?_
      refine KV (R_fieldAddr 1 fd50_1 rfl) rfl ?_
      refine K_gyes rfl rfl ?_
      refine KV (R_loadH ty3 rfl (hA1.mono hle1) rfl (fun _ => rfl) rfl) rfl ?_
      refine K_gyes rfl rfl ?_
      refine KV (R_cmp rfl rfl rfl) rfl ?_
      refine KV (R_pickF rfl rfl) rfl ?_
      refine KV (R_move rfl) rfl ?_
      refine K_split ?_ ?_
      ·
        intro h21
        refine K_gno rfl rfl rfl rfl ?_
        refine K_gno rfl rfl rfl rfl ?_
        refine K_gno rfl rfl rfl rfl ?_
        refine K_gno rfl rfl rfl rfl ?_
        refine KV (R_pickT rfl rfl) rfl ?_
        refine K_nil ?_
        refine Q_then ?_
        refine K_ifT rfl ?_
        refine K_seq ?_
        refine K_region ?_
        refine KV (R_assign rfl) rfl ?_
        refine K_nil ?_
        refine Q_then ?_
        refine K_ret ?_
        refine Q_then_ret ?_
        refine results_gen (rs := [.tmp 2]) (vs := [_]) rfl ⟨rfl, trivial⟩ ?_
        simp only [tupV, auErr]
        rw [if_neg h11, if_pos (.inr (.inl h21))]
      ·
        intro h21
        refine K_gyes rfl rfl ?_
        refine KV (R_fieldAddr 2 fd50_2 rfl) rfl ?_
        refine K_gyes rfl rfl ?_
        refine KV (R_loadH ty48 rfl (hA2.mono hle1) rfl (fun _ => rfl) rfl) rfl ?_
        refine K_gyes rfl rfl ?_
        refine KV (R_len sl48 rfl) rfl ?_
        refine K_gyes rfl rfl ?_
        refine KV (R_cmp rfl rfl rfl) rfl ?_
        refine KV (R_pickF rfl rfl) rfl ?_
        refine K_nil ?_
        refine Q_then ?_
        refine K_if rfl (fun h26 => ?_) (fun h26 => ?_)
        ·
          refine K_seq ?_
          refine K_region ?_
          refine KV (R_assign rfl) rfl ?_
          refine K_nil ?_
          refine Q_then ?_
          refine K_ret ?_
          refine Q_then_ret ?_
          refine results_gen (rs := [.tmp 2]) (vs := [_]) rfl ⟨rfl, trivial⟩ ?_
          simp only [tupV, auErr]
          rw [if_neg h11, if_pos (.inr (.inr h26))]
        ·
          refine K_skip ?_
          refine Q_then ?_
          refine K_seq ?_
          refine K_region ?_
          refine KV (R_makeFunc rfl rfl) rfl ?_
          refine KV (R_assign rfl) rfl ?_
          refine K_nil ?_
          refine Q_then ?_
          refine K_seq ?_
          refine K_seq ?_
          refine K_region ?_
          refine KV (R_fieldAddr 2 fd50_2 rfl) rfl ?_
          refine KV (R_loadH ty48 rfl (hA2.mono hle1) rfl (fun _ => rfl) rfl) rfl ?_
          refine KV (R_len sl48 rfl) rfl ?_
          refine KV (R_move rfl) rfl ?_
          refine K_nil ?_
          refine Q_then ?_
          refine K_block ?_
          refine K_loop (G := Nat × View) ⟨fun g => [(1, ptr b1), (4, .func (.func 100) #[] #[ptr b1]), (29, .slice ua a.rules.length ucp), (30, .int .i64 a.rules.length), (31, .int .i64 (g.1 : Int))], fun g => [], fun g => g.2, fun g => g.1 ≤ a.rules.length ∧ VLe V0 g.2 ∧ ∀ j (hj : j < a.rules.length), j < g.1 → ruleErr a a.rules[j] = 0, fun g => a.rules.length - g.1⟩ (0, V1) ⟨Nat.zero_le _, hle1, fun j _ h => by simp at h⟩ ⟨rfl, rfl, rfl, rfl, rfl, trivial⟩ rfl rfl ?_
          rintro ⟨k, V⟩ ⟨hk, hV, hno⟩
          dsimp only at hk hV hno ⊢
          have hbase : auErr a = if rulesErr a a.rules ≠ 0 then rulesErr a a.rules else if (a.final.any (badQ a.states)) = true then 2 else 0 := by
            unfold auErr
            rw [if_neg h11, if_neg (by omega)]
          refine K_seq ?_
          refine K_region ?_
          refine KV (R_cmp rfl rfl rfl) rfl ?_
          refine K_nil ?_
          refine Q_then ?_
          refine K_seq ?_
          refine K_if rfl (fun h32 => ?_) (fun h32 => ?_)
          ·
            have hk' : k < a.rules.length := by omega
            obtain ⟨ub, uo, ucp2, xa, xcp, hue, hrc, hsr, hsym, hto, hal⟩ := (ha.mono (hle0.trans hV)).rule hk'
            cases hue
            have hre : ruleErr a a.rules[k] ≠ 0 → auErr a = ruleErr a a.rules[k] := fun h => by rw [hbase, rulesErr_take hno hk' h, if_pos h]
            refine K_skip ?_
            refine Q_then ?_
            refine K_seq ?_
            refine K_block ?_
            refine K_seq ?_
            refine K_region ?_
            refine KV (R_indexN sl48 ty85 rfl rfl (by omega)) rfl ?_
            refine KV (R_loadH ty85 rfl (hrc) rfl (fun e => by cases e) rfl) rfl ?_
            refine KA (A_alloc z85) rfl fun b6 => ?_
            refine K_store ty85 0 rfl rfl rfl rfl rfl rfl ?_
            refine K_nil ?_
            refine Q_then ?_
            refine K_block ?_
            refine K_seq ?_
            refine K_region ?_
            refine KV (R_fieldAddr 0 fd85_0 rfl) rfl ?_
            refine KV (R_loadO ty3 0 rfl rfl rfl rfl (fun _ => rfl) rfl) rfl ?_
            refine KV (R_cmp rfl rfl rfl) rfl ?_
            refine KV (R_move rfl) rfl ?_
            refine K_split ?_ ?_
            ·
              intro h39
              refine K_gno rfl rfl rfl rfl ?_
              refine K_gno rfl rfl rfl rfl ?_
              refine K_gno rfl rfl rfl rfl ?_
              refine K_gno rfl rfl rfl rfl ?_
              refine K_gno rfl rfl rfl rfl ?_
              refine K_gno rfl rfl rfl rfl ?_
              refine KV (R_pickT rfl rfl) rfl ?_
              refine KV (R_assign rfl) rfl ?_
              refine K_nil ?_
              refine Q_then ?_
              refine K_ifT rfl ?_
              refine K_seq ?_
              refine K_region ?_
              refine KV (R_assign rfl) rfl ?_
              refine K_nil ?_
              refine Q_then ?_
              refine K_ret ?_
              refine Q_block_ret ?_
              refine Q_block_ret ?_
              refine Q_then_ret ?_
              refine Q_then_ret ?_
              refine Q_block_ret ?_
              refine Q_then_ret ?_
              refine results_gen (rs := [.tmp 2]) (vs := [_]) rfl ⟨rfl, trivial⟩ ?_
              have e : ruleErr a a.rules[k] = 6 := by
                simp only [ruleErr]
                rw [if_pos (.inl h39)]
              rw [hre (by rw [e]; decide), e]
              rfl
            ·
              intro h39
              have hs0 : 0 ≤ a.rules[k].sym := by omega
              refine K_gyes rfl rfl ?_
              refine KV (R_fieldAddr 0 fd85_0 rfl) rfl ?_
              refine K_gyes rfl rfl ?_
              refine KV (R_loadO ty3 0 rfl rfl rfl rfl (fun _ => rfl) rfl) rfl ?_
              refine K_gyes rfl rfl ?_
              refine KV (R_fieldAddr 0 fd50_0 rfl) rfl ?_
              refine K_gyes rfl rfl ?_
              refine KV (R_loadH ty47 rfl (hA0.mono hV) rfl (fun _ => rfl) rfl) rfl ?_
              refine K_gyes rfl rfl ?_
              refine KV (R_len sl47 rfl) rfl ?_
              refine K_gyes rfl rfl ?_
              refine KV (R_cmp rfl rfl rfl) rfl ?_
              refine KV (R_pickF rfl rfl) rfl ?_
              refine KV (R_assign rfl) rfl ?_
              refine K_nil ?_
              refine Q_then ?_
              refine K_if rfl (fun h35 => ?_) (fun h35 => ?_)
              ·
                refine K_seq ?_
                refine K_region ?_
                refine KV (R_assign rfl) rfl ?_
                refine K_nil ?_
                refine Q_then ?_
                refine K_ret ?_
                refine Q_block_ret ?_
                refine Q_block_ret ?_
                refine Q_then_ret ?_
                refine Q_then_ret ?_
                refine Q_block_ret ?_
                refine Q_then_ret ?_
                refine results_gen (rs := [.tmp 2]) (vs := [_]) rfl ⟨rfl, trivial⟩ ?_
                have e : ruleErr a a.rules[k] = 6 := by
                  simp only [ruleErr]
                  rw [if_pos (.inr h35)]
                rw [hre (by rw [e]; decide), e]
                rfl
              ·
                have hs1 : a.rules[k].sym < a.ranks.length := by omega
                have hs2 : a.rules[k].sym.toNat < a.ranks.length := by omega
                obtain ⟨rb, ro, rfl, hrk⟩ := (ha.mono (hle0.trans hV)).r.get hs2
                have hgd : a.ranks.getD a.rules[k].sym.toNat 0 = a.ranks[a.rules[k].sym.toNat] := by simp [List.getD, hs2]
                refine K_seq ?_
                refine K_regionD (fin := false) (R := [0, 1, 2, 3, 4, 5, 6, 7, 8, 9, 10]) (by kernel_rfl) mixed (.cons_cons _ (List.nil_sublist _)) ?_
                refine D_val rfl rfl rfl (R_fieldAddr 1 fd85_1 rfl) ?_
                refine D_val rfl rfl rfl (R_loadO ty25 0 rfl rfl rfl rfl (fun _ => rfl) rfl) ?_
                refine D_val rfl rfl rfl (R_len sl25 rfl) ?_
                refine D_val rfl rfl rfl (R_fieldAddr 0 fd50_0 rfl) ?_
                refine D_val rfl rfl rfl (R_loadH ty47 rfl (hA0.mono hV) rfl (fun _ => rfl) rfl) ?_
                refine D_val rfl rfl rfl (R_fieldAddr 0 fd85_0 rfl) ?_
                refine D_val rfl rfl rfl (R_loadO ty3 0 rfl rfl rfl rfl (fun _ => rfl) rfl) ?_
                refine D_val rfl rfl rfl (R_index sl47 ty3 rfl rfl ⟨hs0, hs1⟩) ?_
                refine D_val rfl rfl rfl (R_loadH ty3 rfl (hrk) rfl (fun _ => rfl) rfl) ?_
                refine D_val rfl rfl rfl (R_cmp rfl rfl rfl) ?_
                refine D_val rfl rfl rfl (R_assign rfl) ?_
                refine D_done ?_
                refine Q_then ?_
                refine K_if rfl (fun h47 => ?_) (fun h47 => ?_)
                ·
                  refine K_seq ?_
                  refine K_region ?_
                  refine KV (R_assign rfl) rfl ?_
                  refine K_nil ?_
                  refine Q_then ?_
                  refine K_ret ?_
                  refine Q_block_ret ?_
                  refine Q_block_ret ?_
                  refine Q_then_ret ?_
                  refine Q_then_ret ?_
                  refine Q_block_ret ?_
                  refine Q_then_ret ?_
                  refine results_gen (rs := [.tmp 2]) (vs := [_]) rfl ⟨rfl, trivial⟩ ?_
                  have e : ruleErr a a.rules[k] = 3 := by
                    simp only [ruleErr]
                    rw [if_neg (by omega), hgd, if_pos h47]
                  rw [hre (by rw [e]; decide), e]
                  rfl
                ·
                  refine K_seq ?_
                  refine K_region ?_
                  refine KV (R_fieldAddr 1 fd85_1 rfl) rfl ?_
                  refine KV (R_loadO ty25 0 rfl rfl rfl rfl (fun _ => rfl) rfl) rfl ?_
                  refine KV (R_move rfl) rfl ?_
                  refine K_call c86 rfl rfl (sicon_spec 100 [ptr b1] (badQ a.states) a.rules[k].args _ V hsr hal c100 (fun x W _ hW => nbad_spec _ _ _ a.states b1 x W (hA.mono (hV.trans hW)))) ?_
                  rintro _ V2 hle2 rfl
                  refine KV (R_move rfl) rfl ?_
                  refine K_splitB ?_ ?_
                  ·
                    intro h63
                    refine K_gno rfl rfl rfl rfl ?_
                    refine K_gno rfl rfl rfl rfl ?_
                    refine K_gno rfl rfl rfl rfl ?_
                    refine K_gno rfl rfl rfl rfl ?_
                    refine KV (R_pickT rfl rfl) rfl ?_
                    refine KV (R_assign rfl) rfl ?_
                    refine K_nil ?_
                    refine Q_then ?_
                    refine K_ifT rfl ?_
                    refine K_seq ?_
                    refine K_region ?_
                    refine KV (R_assign rfl) rfl ?_
                    refine K_nil ?_
                    refine Q_then ?_
                    refine K_ret ?_
                    refine Q_block_ret ?_
                    refine Q_block_ret ?_
                    refine Q_then_ret ?_
                    refine Q_then_ret ?_
                    refine Q_block_ret ?_
                    refine Q_then_ret ?_
                    refine results_gen (rs := [.tmp 2]) (vs := [_]) rfl ⟨rfl, trivial⟩ ?_
                    have e : ruleErr a a.rules[k] = 2 := by
                      simp only [ruleErr]
                      rw [if_neg (by omega), hgd, if_neg h47, h63]; rfl
                    rw [hre (by rw [e]; decide), e]
                    rfl
                  ·
                    intro h63
                    refine K_gyes rfl rfl ?_
                    refine KV (R_move rfl) rfl ?_
                    refine K_gyes rfl rfl ?_
                    refine KV (R_fieldAddr 2 fd85_2 rfl) rfl ?_
                    refine K_gyes rfl rfl ?_
                    refine KV (R_loadO ty3 0 rfl rfl rfl rfl (fun _ => rfl) rfl) rfl ?_
                    refine K_gyes rfl rfl ?_
                    refine K_callO (first := []) [] _ (List.Perm.refl _) c100 rfl rfl rfl (nbad_spec _ _ _ a.states b1 a.rules[k].to V2 (hA.mono (hV.trans hle2))) ?_
                    rintro _ V3 q hle3 rfl
                    refine KO_own _ (List.sublist_append_right q _) ?_
                    refine KV (R_pickF rfl rfl) rfl ?_
                    refine KV (R_assign rfl) rfl ?_
                    refine K_nil ?_
                    refine Q_then ?_
                    refine K_ifB rfl (fun h58 => ?_) (fun h58 => ?_)
                    ·
                      refine K_seq ?_
                      refine K_region ?_
                      refine KV (R_assign rfl) rfl ?_
                      refine K_nil ?_
                      refine Q_then ?_
                      refine K_ret ?_
                      refine Q_block_ret ?_
                      refine Q_block_ret ?_
                      refine Q_then_ret ?_
                      refine Q_then_ret ?_
                      refine Q_block_ret ?_
                      refine Q_then_ret ?_
                      refine results_gen (rs := [.tmp 2]) (vs := [_]) rfl ⟨rfl, trivial⟩ ?_
                      have e : ruleErr a a.rules[k] = 2 := by
                        simp only [ruleErr]
                        rw [if_neg (by omega), hgd, if_neg h47, h63, h58]; rfl
                      rw [hre (by rw [e]; decide), e]
                      rfl
                    ·
                      have hno2 : ∀ j (hj : j < a.rules.length), j < k + 1 → ruleErr a a.rules[j] = 0 := by
                        intro j hj hjk
                        by_cases e : j = k
                        · subst e
                          simp only [ruleErr]
                          rw [if_neg (by omega), hgd, if_neg h47, h63, h58]
                          simp
                        · exact hno j hj (by omega)
                      refine K_skip ?_
                      refine Q_block ?_
                      refine Q_block ?_
                      refine Q_then ?_
                      refine K_region ?_
                      refine KV (R_add rfl rfl (by omega)) rfl ?_
                      refine KV (R_move rfl) rfl ?_
                      refine K_nil ?_
                      refine KQ_sel [] rfl ?_
                      exact Q_next (k + 1, V3) ⟨hk', hV.trans (hle2.trans hle3), hno2⟩ (by dsimp only; omega) ⟨rfl, rfl, rfl, rfl, rfl, trivial⟩ rfl rfl
          ·
            have hk' : k = a.rules.length := by omega
            subst hk'
            have hrz : rulesErr a a.rules = 0 := rulesErr_zero fun j hj => hno j hj hj
            rw [hrz, if_neg (by decide)] at hbase
            refine K_exit ?_
            refine Q_then_exit ?_
            refine Q_then_exit ?_
            refine Q_block_exit ?_
            refine Q_then ?_
            refine K_seq ?_
            refine K_seq ?_
            refine K_region ?_
            refine KV (R_fieldAddr 3 fd50_3 rfl) rfl ?_
            refine KV (R_loadH ty25 rfl (hA3.mono hV) rfl (fun _ => rfl) rfl) rfl ?_
            refine KV (R_move rfl) rfl ?_
            refine K_call c86 rfl rfl (sicon_spec 100 [ptr b1] (badQ a.states) a.final _ V ((ha.mono (hle0.trans hV)).f) hfl c100 (fun x W _ hW => nbad_spec _ _ _ a.states b1 x W (hA.mono (hV.trans hW)))) ?_
            rintro _ V2 hle2 rfl
            refine K_nil ?_
            refine Q_then ?_
            refine K_ifB rfl (fun h73 => ?_) (fun h73 => ?_)
            ·
              refine K_seq ?_
              refine K_region ?_
              refine KV (R_assign rfl) rfl ?_
              refine K_nil ?_
              refine Q_then ?_
              refine K_ret ?_
              refine Q_then_ret ?_
              refine results_gen (rs := [.tmp 2]) (vs := [_]) rfl ⟨rfl, trivial⟩ ?_
              rw [hbase, if_pos h73]
              rfl
            ·
              refine K_skip ?_
              refine Q_then ?_
              refine K_seq ?_
              refine K_region ?_
              refine KV (R_assign rfl) rfl ?_
              refine K_nil ?_
              refine Q_then ?_
              refine K_ret ?_
              refine results_gen (rs := [.tmp 2]) (vs := [_]) rfl ⟨rfl, trivial⟩ ?_
              rw [hbase, h73]
              rfl

theorem clip_spec (a : Option Addr) (k cap : Nat) (h : k ≤ cap) (H : View) : Sat Tryd.prog 84 #[.slice a k cap] H (fun v _ => v = .slice a k k) := by
  refine enterO (n := 9) (args := [.slice a k cap]) Tryd.func84 rfl rfl rfl fun w0 => ?_
  refine K_seq ?_
  refine K_region ?_
  refine KV (R_assign rfl) rfl ?_
  refine K_nil ?_
  refine Q_then ?_
  refine K_seq ?_
  refine K_region ?_
  refine KV (R_move rfl) rfl ?_
  refine KV (R_move rfl) rfl ?_
  refine KV (R_len sl25 rfl) rfl ?_
  refine KV (R_move rfl) rfl ?_
  refine KV (R_len sl25 rfl) rfl ?_
  refine KV (R_clip sl25 ty3 rfl rfl rfl h) rfl ?_
  refine KV (R_assign rfl) rfl ?_
  refine K_nil ?_
  refine Q_then ?_
  refine K_ret ?_
  refine results_gen (rs := [.tmp 2]) (vs := [_]) rfl ⟨rfl, trivial⟩ ?_
  simp [tupV]

theorem visit_spec (n k gf : Nat) (cap : List Value) (T : List (List Int)) (E : List (List Int) → HL → Prop) (F : HL → Prop) (H0 : View) (hV : VisitOk Tryd.prog gf cap H0 T E F) (hcal : callable Tryd.prog gf = true) (hk : k ≤ 1099511627776) (hn : n ≤ 1099511627776)
    (b1 b2 b3 b4 : Nat) : ∀ m xs pre a len cp H p, xs.length = len → VLe H0 H → len + m = n → SI H (.slice a len cp) xs → len ≤ cp → E pre p → (pre ++ ext k m xs) <+: T →
    At H b1 0 [.int .i64 (n : Int)] → At H b2 0 [.func (.func gf) #[] cap.toArray] → At H b3 0 [.int .i64 (k : Int)] → At H b4 0 [.func (.func 83) #[] #[ptr b1, ptr b2, ptr b3, ptr b4]] →
    SatO Tryd.prog 83 #[.slice a len cp, ptr b1, ptr b2, ptr b3, ptr b4] H p (fun v _ q => ∃ r : Bool, v = .bool r ∧ (r = true → E (pre ++ ext k m xs) q) ∧ (r = false → F q)) := by
  intro m
  induction m using Nat.strongRecOn with | _ m ih =>
  intro xs pre a len cp H p hlen h0 hm hs hcp hE hpf h1 h2 h3 h4
  refine enterO (n := 28) (args := [.slice a len cp, ptr b1, ptr b2, ptr b3, ptr b4]) Tryd.func83 rfl rfl rfl fun w0 => ?_
  refine K_seq ?_
  refine K_region ?_
  refine KV (R_assign rfl) rfl ?_
  refine K_nil ?_
  refine Q_then ?_
  refine K_seq ?_
  refine K_seq ?_
  refine K_region ?_
  refine KV (R_move rfl) rfl ?_
  refine KV (R_len sl25 rfl) rfl ?_
  refine KV (R_loadH ty3 rfl (h1) rfl (fun _ => rfl) rfl) rfl ?_
  refine KV (R_cmp rfl rfl rfl) rfl ?_
  refine K_nil ?_
  refine Q_then ?_
  refine K_if rfl (fun h11 => ?_) (fun h11 => ?_)
  ·
    have hm0 : m = 0 := by omega
    subst hm0
    refine K_seq ?_
    refine K_region ?_
    refine KV (R_loadH ty108 rfl (h2) rfl (fun _ => rfl) rfl) rfl ?_
    refine KV (R_move rfl) rfl ?_
    refine K_callO (first := []) p [] (by rw [List.append_nil]) hcal rfl rfl rfl (hV H pre xs a len cp p hlen h0 hE hpf hs hcp) ?_
    rintro _ V1 q hle ⟨r, rfl, hr1, hr2⟩
    refine KV (R_assign rfl) rfl ?_
    refine K_nil ?_
    refine Q_then ?_
    refine K_ret ?_
    refine Q_then_ret ?_
    refine results_gen (rs := [.tmp 6]) (vs := [_]) rfl ⟨rfl, trivial⟩ ?_
    refine ⟨r, rfl, ?_, ?_⟩
    · rw [List.append_nil]; exact hr1
    · rw [List.append_nil]; exact hr2
  ·
    obtain ⟨m, rfl⟩ : ∃ m', m = m' + 1 := ⟨m - 1, by omega⟩
    refine K_skip ?_
    refine Q_then ?_
    refine K_seq ?_
    refine K_seq ?_
    refine K_region ?_
    refine KV (R_loadH ty3 rfl (h3) rfl (fun _ => rfl) rfl) rfl ?_
    refine KV (R_move rfl) rfl ?_
    refine K_nil ?_
    refine Q_then ?_
    refine K_block ?_
    refine K_loop (G := Nat × View × HL) ⟨fun g => [(0, .slice a len cp), (1, ptr b1), (2, ptr b2), (3, ptr b3), (4, ptr b4), (15, .int .i64 (k : Int)), (16, .int .i64 (g.1 : Int))], fun g => g.2.2, fun g => g.2.1, fun g => g.1 ≤ k ∧ VLe H g.2.1 ∧ E (pre ++ extTo k m xs g.1) g.2.2, fun g => k - g.1⟩ (0, H, p) ⟨Nat.zero_le _, VLe.refl H, by simpa [extTo] using hE⟩ ⟨rfl, rfl, rfl, rfl, rfl, rfl, rfl, trivial⟩ rfl rfl ?_
    rintro ⟨i, V, p'⟩ ⟨hi0, hV1, hE1⟩
    dsimp only at hi0 hV1 hE1 ⊢
    refine K_seq ?_
    refine K_region ?_
    refine KV (R_cmp rfl rfl rfl) rfl ?_
    refine K_nil ?_
    refine Q_then ?_
    refine K_seq ?_
    refine K_if rfl (fun h17 => ?_) (fun h17 => ?_)
    ·
      have hi : i < k := by omega
      refine K_skip ?_
      refine Q_then ?_
      refine K_seq ?_
      refine K_block ?_
      refine K_seq ?_
      refine K_region ?_
      refine KV (R_move rfl) rfl ?_
      refine KV (R_assign rfl) rfl ?_
      refine K_nil ?_
      refine Q_then ?_
      refine K_seq ?_
      refine K_regionD (fin := false) (R := [0, 1, 3, 2, 4, 5, 6, 7]) (by kernel_rfl) mixed (List.nil_sublist _) ?_
      refine D_val rfl rfl rfl (R_loadH ty108 rfl (h4.mono hV1) rfl (fun _ => rfl) rfl) ?_
      refine D_val rfl rfl rfl (R_move rfl) ?_
      refine D_val rfl rfl rfl (R_move rfl) ?_
      refine D_call rfl rfl c84 rfl trivial (clip_spec a len cp hcp V) ?_
      rintro _ V2 hle2 rfl
      refine D_alloc rfl rfl rfl (A_buildSlice (vs := [.int .i64 (i : Int)]) sl25 ty3 z3 rfl rfl (by simp [Value.cells]) (by simp) rfl (by decide)) fun b23 => ?_
      refine D_appendPub1 ap25 rfl rfl rfl ((hlen ▸ hs.1.mono (hV1.trans hle2)).recap len) (by simp [ints, hlen]) rfl rfl trivial rfl ⟨by omega, by omega⟩ fun v24 V3 hle3 hv24 => ?_
      obtain ⟨hsl, a24, c24, rfl, hc24⟩ := hv24
      refine D_callO (first := []) p' [] rfl rfl c83 rfl rfl (by rw [List.append_nil]) trivial (ih m (by omega) (xs ++ [(i : Int)]) (pre ++ extTo k m xs i) a24 (len + 1) c24 V3 p' (by simp [hlen]) (h0.trans (hV1.trans (hle2.trans hle3))) (by omega) (by subst hlen; exact SI.snoc hs.2 (by omega) hsl) hc24 hE1 ?_ (h1.mono (hV1.trans (hle2.trans hle3))) (h2.mono (hV1.trans (hle2.trans hle3))) (h3.mono (hV1.trans (hle2.trans hle3))) (h4.mono (hV1.trans (hle2.trans hle3)))) ?_
      · exact ext_prefix hi hpf
      rintro _ V4 q hle4 ⟨r, rfl, hr1, hr2⟩
      refine D_val rfl rfl rfl (R_not rfl) ?_
      refine D_done ?_
      refine Q_then ?_
      cases r with
      | false =>
        refine K_ifT rfl ?_
        refine K_seq ?_
        refine K_region ?_
        refine KV (R_assign rfl) rfl ?_
        refine K_nil ?_
        refine Q_then ?_
        refine K_ret ?_
        refine Q_block_ret ?_
        refine Q_then_ret ?_
        refine Q_then_ret ?_
        refine Q_block_ret ?_
        refine Q_then_ret ?_
        refine results_gen (rs := [.tmp 6]) (vs := [_]) rfl ⟨rfl, trivial⟩ ?_
        refine ⟨false, rfl, (fun e => by cases e), fun _ => ?_⟩
        rw [List.append_nil]; exact hr2 rfl
      | true =>
        refine K_ifF rfl ?_
        refine K_skip ?_
        refine Q_block ?_
        refine Q_then ?_
        refine K_region ?_
        refine KV (R_add rfl rfl (by omega)) rfl ?_
        refine KV (R_move rfl) rfl ?_
        refine K_nil ?_
        refine Q_next (i + 1, V4, q) ⟨hi, hV1.trans (hle2.trans (hle3.trans hle4)), ?_⟩ (by dsimp only; omega) ⟨rfl, rfl, rfl, rfl, rfl, rfl, rfl, trivial⟩ (List.append_nil _) rfl
        rw [extTo_succ, ← List.append_assoc]
        exact hr1 rfl
    ·
      have hi : i = k := by omega
      subst hi
      refine K_exit ?_
      refine Q_then_exit ?_
      refine Q_then_exit ?_
      refine Q_block_exit ?_
      refine Q_then ?_
      refine K_seq ?_
      refine K_region ?_
      refine KV (R_assign rfl) rfl ?_
      refine K_nil ?_
      refine Q_then ?_
      refine K_ret ?_
      refine results_gen (rs := [.tmp 6]) (vs := [_]) rfl ⟨rfl, trivial⟩ ?_
      exact ⟨true, rfl, fun _ => hE1, fun e => by cases e⟩

theorem tuples_spec (n k gf : Nat) (cap : List Value) (E : List (List Int) → HL → Prop) (F : HL → Prop) (H : View) (p : HL) (hV : VisitOk Tryd.prog gf cap H (ext k n []) E F) (hcal : callable Tryd.prog gf = true) (hk : k ≤ 1099511627776) (hn : n ≤ 1099511627776) (hE : E [] p) :
    SatO Tryd.prog 48 #[.int .i64 (n : Int), .int .i64 (k : Int), .func (.func gf) #[] cap.toArray] H p (fun v _ q => ∃ r : Bool, v = .bool r ∧ (r = true → E (ext k n []) q) ∧ (r = false → F q)) := by
  refine enterO (n := 11) (args := [.int .i64 (n : Int), .int .i64 (k : Int), .func (.func gf) #[] cap.toArray]) Tryd.func48 rfl rfl rfl fun w0 => ?_
  refine K_seq ?_
  refine K_region ?_
  refine KA (A_box rfl) rfl fun b3 => ?_
  refine KA (A_box rfl) rfl fun b4 => ?_
  refine KA (A_box rfl) rfl fun b5 => ?_
  refine KV (R_assign rfl) rfl ?_
  refine K_nil ?_
  refine Q_then ?_
  refine K_seq ?_
  refine K_region ?_
  refine KA (A_alloc z108) rfl fun b7 => ?_
  refine K_nil ?_
  refine Q_then ?_
  refine K_seq ?_
  refine K_region ?_
  refine KV (R_makeFunc rfl rfl) rfl ?_
  refine K_store ty108 0 rfl rfl rfl rfl rfl rfl ?_
  refine K_nil ?_
  refine KQ_pubblk (by intro x hx; simp only [feet_cons]; simp [hx]) fun V1 hle1 hb7 => ?_
  refine KQ_pubblk (by intro x hx; simp only [feet_cons]; simp [hx]) fun V2 hle2 hb5 => ?_
  refine KQ_pubblk (by intro x hx; simp only [feet_cons]; simp [hx]) fun V3 hle3 hb4 => ?_
  refine KQ_pubblk (by intro x hx; exact hx) fun V4 hle4 hb3 => ?_
  refine Q_then ?_
  refine K_seq ?_
  refine K_region ?_
  refine KV (R_loadH ty108 rfl ((At.of hb7).mono (hle2.trans (hle3.trans hle4))) rfl (fun _ => rfl) rfl) rfl ?_
  refine K_callO (first := []) p [] (by rw [List.append_nil]) c83 rfl rfl rfl (visit_spec n k gf cap (ext k n []) E F H hV hcal hk hn b3 b5 b4 b7 n [] [] none 0 0 V4 p rfl (hle1.trans (hle2.trans (hle3.trans hle4))) (by omega) ⟨⟨none, 0, rfl, .inl ⟨rfl, rfl⟩⟩, by simp⟩ (Nat.le_refl _) hE (List.prefix_refl _) (At.of hb3) ((At.of hb5).mono (hle3.trans hle4)) ((At.of hb4).mono hle4) ((At.of hb7).mono (hle2.trans (hle3.trans hle4)))) ?_
  rintro _ V5 q hle5 ⟨r, rfl, hr1, hr2⟩
  refine KV (R_assign rfl) rfl ?_
  refine K_nil ?_
  refine Q_then ?_
  refine K_ret ?_
  refine results_gen (rs := [.tmp 6]) (vs := [_]) rfl ⟨rfl, trivial⟩ ?_
  refine ⟨r, rfl, ?_, ?_⟩
  · rw [List.append_nil]; exact hr1
  · rw [List.append_nil]; exact hr2
end Go.Proofs.X
