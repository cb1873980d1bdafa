/-
  Part of the proof: rules for walks, contracts of the functions that the statements reach, plain laws. Own work. No statement of the seat is proved here.
-/
import Derived.Test.YtglmnochbdpmaaaGreatDoorPart2
import Derived.Test.YtglmnochbdpmaaaGreatDoorPart1
namespace Go.Proofs.X
open Go Pal Go.Proofs
attribute [local irreducible] Pal.KO Pal.KC Pal.KQ Pal.KD
theorem ty3 : Ty Tryz.prog T3 false 1 := .of (by kernel_rfl)
theorem ty25 : Ty Tryz.prog T25 false 1 := .of (by kernel_rfl)
theorem ty47 : Ty Tryz.prog T47 false 1 := .of (by kernel_rfl)
theorem ty48 : Ty Tryz.prog T48 false 1 := .of (by kernel_rfl)
theorem ty50 : Ty Tryz.prog T50 true 4 := .of (by kernel_rfl)
theorem ty85 : Ty Tryz.prog T85 true 3 := .of (by kernel_rfl)
theorem sl25 : slcOk Tryz.prog T25 T3 := by unfold slcOk; kernel_rfl
theorem sl47 : slcOk Tryz.prog T47 T3 := by unfold slcOk; kernel_rfl
theorem sl48 : slcOk Tryz.prog T48 T85 := by unfold slcOk; kernel_rfl
theorem fd50_0 : fldOk Tryz.prog T50 0 0 = true := by kernel_rfl
theorem fd50_1 : fldOk Tryz.prog T50 1 1 = true := by kernel_rfl
theorem fd50_2 : fldOk Tryz.prog T50 2 2 = true := by kernel_rfl
theorem fd50_3 : fldOk Tryz.prog T50 3 3 = true := by kernel_rfl
theorem fd85_0 : fldOk Tryz.prog T85 0 0 = true := by kernel_rfl
theorem fd85_1 : fldOk Tryz.prog T85 1 1 = true := by kernel_rfl
theorem fd85_2 : fldOk Tryz.prog T85 2 2 = true := by kernel_rfl
theorem z85 : zeroOk Tryz.prog T85 (.agg #[.int .i64 0, .slice none 0 0, .int .i64 0]) := .of (by kernel_rfl)
theorem c72 : callable Tryz.prog F72 = true := by kernel_rfl
theorem c86 : callable Tryz.prog F86 = true := by kernel_rfl
theorem c95 : callable Tryz.prog F95 = true := by kernel_rfl
theorem c96 : callable Tryz.prog F96 = true := by kernel_rfl
theorem c97 : callable Tryz.prog F97 = true := by kernel_rfl
theorem c100 : callable Tryz.prog F100 = true := by kernel_rfl
theorem c101 : callable Tryz.prog F101 = true := by kernel_rfl
theorem c110 : callable Tryz.prog F110 = true := by kernel_rfl
theorem c112 : callable Tryz.prog F112 = true := by kernel_rfl
theorem c113 : callable Tryz.prog F113 = true := by kernel_rfl
theorem siidx_spec (f : Nat) (cap : List Value) (p : Int → Bool) (xs : List Int) (v : Value) (H : View) (hv : SI H v xs) (hl : xs.length ≤ 1099511627776) (hcal : callable Tryz.prog f = true)
    (hp : ∀ x V, x ∈ xs → VLe H V → Sat Tryz.prog f ([] ++ [Value.int .i64 x] ++ cap).toArray V (fun r _ => r = .bool (p x))) :
    Sat Tryz.prog F110 #[v, .func (.func f) #[] cap.toArray] H (fun r _ => ∃ i : Int, r = .int .i64 i ∧ (0 ≤ i ↔ ∃ x ∈ xs, p x = true)) := by
  obtain ⟨a, cp, rfl⟩ := hv.shape
  refine enterO (n := 19) (args := [.slice a xs.length cp, .func (.func f) #[] cap.toArray]) Tryz.func82 rfl rfl rfl fun w0 => ?_
  refine K_seq ?_
  refine K_region ?_
  refine KV (R_assign rfl) rfl ?_
  refine K_nil ?_
  refine Q_then ?_
  refine K_seq ?_
  refine K_seq ?_
  refine K_region ?_
  refine KV (R_move rfl) rfl ?_
  refine KV (R_len sl25 rfl) rfl ?_
  refine KV (R_move rfl) rfl ?_
  refine K_nil ?_
  refine Q_then ?_
  refine K_block ?_
  refine K_loop (G := Nat × View) ⟨fun g => [(0, .slice a xs.length cp), (1, .func (.func f) #[] cap.toArray), (7, .int .i64 xs.length), (8, .int .i64 (g.1 : Int))], fun g => [], fun g => g.2, fun g => g.1 ≤ xs.length ∧ VLe H g.2 ∧ ∀ j (h : j < xs.length), j < g.1 → p xs[j] = false, fun g => xs.length - g.1⟩ (0, H) ⟨Nat.zero_le _, VLe.refl H, fun j _ h => by simp at h⟩ ⟨rfl, rfl, rfl, rfl, trivial⟩ rfl rfl ?_
  rintro ⟨k, V⟩ ⟨hk, hV, hno⟩
  dsimp only at hk hV hno ⊢
  refine K_seq ?_
  refine K_region ?_
  refine KV (R_cmp rfl rfl rfl) rfl ?_
  refine K_nil ?_
  refine Q_then ?_
  refine K_seq ?_
  refine K_if rfl (fun h9 => ?_) (fun h9 => ?_)
  ·
    have hk' : k < xs.length := by omega
    obtain ⟨tb, to_, rfl, hta⟩ := (hv.mono hV).get hk'
    refine K_skip ?_
    refine Q_then ?_
    refine K_seq ?_
    refine K_block ?_
    refine K_seq ?_
    refine K_region ?_
    refine KV (R_move rfl) rfl ?_
    refine KV (R_assign rfl) rfl ?_
    refine K_nil ?_
    refine Q_then ?_
    refine K_seq ?_
    refine K_region ?_
    refine KV (R_move rfl) rfl ?_
    refine KV (R_move rfl) rfl ?_
    refine KV (R_move rfl) rfl ?_
    refine KV (R_indexN sl25 ty3 rfl rfl (by omega)) rfl ?_
    refine KV (R_loadH ty3 rfl (hta) rfl (fun _ => rfl) rfl) rfl ?_
    refine K_callO (first := []) [] [] (List.Perm.refl _) hcal rfl rfl rfl (hp xs[k] V (List.getElem_mem hk') hV) ?_
    rintro _ V' q hle rfl
    refine KO_own [] (List.nil_sublist _) ?_
    refine K_nil ?_
    refine Q_then ?_
    refine K_ifB rfl (fun h16 => ?_) (fun h16 => ?_)
    ·
      refine K_seq ?_
      refine K_region ?_
      refine KV (R_move rfl) rfl ?_
      refine KV (R_assign rfl) rfl ?_
      refine K_nil ?_
      refine Q_then ?_
      refine K_ret ?_
      refine Q_block_ret ?_
      refine Q_then_ret ?_
      refine Q_then_ret ?_
      refine Q_block_ret ?_
      refine Q_then_ret ?_
      refine results_gen (rs := [.tmp 4]) (vs := [_]) rfl ⟨rfl, trivial⟩ ?_
      exact ⟨k, rfl, ⟨fun _ => ⟨_, List.getElem_mem hk', h16⟩, fun _ => by omega⟩⟩
    ·
      have hno2 : ∀ j (h : j < xs.length), j < k + 1 → p xs[j] = false := by
        intro j h hj
        by_cases e : j = k
        · subst e; exact h16
        · exact hno j h (by omega)
      refine K_skip ?_
      refine Q_block ?_
      refine Q_then ?_
      refine K_region ?_
      refine KV (R_add rfl rfl (by omega)) rfl ?_
      refine KV (R_move rfl) rfl ?_
      refine K_nil ?_
      exact Q_next (k + 1, V') ⟨hk', hV.trans hle, hno2⟩ (by dsimp only; omega) ⟨rfl, rfl, rfl, rfl, trivial⟩ rfl rfl
  ·
    have hk' : k = xs.length := by omega
    refine K_exit ?_
    refine Q_then_exit ?_
    refine Q_then_exit ?_
    refine Q_block_exit ?_
    refine Q_then ?_
    refine K_seq ?_
    refine K_region ?_
    refine KV (R_assign rfl) rfl ?_
    refine K_nil ?_
    refine Q_then ?_
    refine K_ret ?_
    refine results_gen (rs := [.tmp 4]) (vs := [_]) rfl ⟨rfl, trivial⟩ ?_
    refine ⟨-1, rfl, ⟨fun h => by omega, ?_⟩⟩
    rintro ⟨x, hx, hpx⟩
    obtain ⟨j, hj, rfl⟩ := List.getElem_of_mem hx
    rw [hno j hj (by omega)] at hpx; cases hpx

theorem sicon_spec (f : Nat) (cap : List Value) (p : Int → Bool) (xs : List Int) (v : Value) (H : View) (hv : SI H v xs) (hl : xs.length ≤ 1099511627776) (hcal : callable Tryz.prog f = true)
    (hp : ∀ x V, x ∈ xs → VLe H V → Sat Tryz.prog f ([] ++ [Value.int .i64 x] ++ cap).toArray V (fun r _ => r = .bool (p x))) :
    Sat Tryz.prog F86 #[v, .func (.func f) #[] cap.toArray] H (fun r _ => r = .bool (xs.any p)) := by
  obtain ⟨a, cp, rfl⟩ := hv.shape
  refine enterO (n := 9) (args := [.slice a xs.length cp, .func (.func f) #[] cap.toArray]) Tryz.func42 rfl rfl rfl fun w0 => ?_
  refine K_seq ?_
  refine K_region ?_
  refine KV (R_assign rfl) rfl ?_
  refine K_nil ?_
  refine Q_then ?_
  refine K_seq ?_
  refine K_region ?_
  refine KV (R_move rfl) rfl ?_
  refine KV (R_move rfl) rfl ?_
  refine K_call c110 rfl rfl (siidx_spec f cap p xs _ H hv hl hcal hp) ?_
  rintro _ V' hle ⟨i, rfl, hi⟩
  refine KV (R_cmp rfl rfl rfl) rfl ?_
  refine KV (R_assign rfl) rfl ?_
  refine K_nil ?_
  refine Q_then ?_
  refine K_ret ?_
  refine results_gen (rs := [.tmp 4]) (vs := [_]) rfl ⟨rfl, trivial⟩ ?_
  refine congrArg Value.bool ?_
  by_cases h : 0 ≤ i
  · rw [decide_eq_true h]; exact (List.any_eq_true.2 (hi.1 h)).symm
  · rw [decide_eq_false h]; exact (Bool.eq_false_iff.2 fun h2 => h (hi.2 (List.any_eq_true.1 h2))).symm

theorem saidx_spec (f : Nat) (cap : List Value) (p : Int → Bool) (xs : List Int) (v : Value) (H : View) (hv : SI H v xs) (hl : xs.length ≤ 1099511627776) (hcal : callable Tryz.prog f = true)
    (hp : ∀ x V, x ∈ xs → VLe H V → Sat Tryz.prog f ([] ++ [Value.int .i64 x] ++ cap).toArray V (fun r _ => r = .bool (p x))) :
    Sat Tryz.prog F112 #[v, .func (.func f) #[] cap.toArray] H (fun r _ => ∃ i : Int, r = .int .i64 i ∧ (0 ≤ i ↔ ∃ x ∈ xs, p x = true)) := by
  obtain ⟨a, cp, rfl⟩ := hv.shape
  refine enterO (n := 19) (args := [.slice a xs.length cp, .func (.func f) #[] cap.toArray]) Tryz.func110 rfl rfl rfl fun w0 => ?_
  refine K_seq ?_
  refine K_region ?_
  refine KV (R_assign rfl) rfl ?_
  refine K_nil ?_
  refine Q_then ?_
  refine K_seq ?_
  refine K_seq ?_
  refine K_region ?_
  refine KV (R_move rfl) rfl ?_
  refine KV (R_len sl47 rfl) rfl ?_
  refine KV (R_move rfl) rfl ?_
  refine K_nil ?_
  refine Q_then ?_
  refine K_block ?_
  refine K_loop (G := Nat × View) ⟨fun g => [(0, .slice a xs.length cp), (1, .func (.func f) #[] cap.toArray), (7, .int .i64 xs.length), (8, .int .i64 (g.1 : Int))], fun g => [], fun g => g.2, fun g => g.1 ≤ xs.length ∧ VLe H g.2 ∧ ∀ j (h : j < xs.length), j < g.1 → p xs[j] = false, fun g => xs.length - g.1⟩ (0, H) ⟨Nat.zero_le _, VLe.refl H, fun j _ h => by simp at h⟩ ⟨rfl, rfl, rfl, rfl, trivial⟩ rfl rfl ?_
  rintro ⟨k, V⟩ ⟨hk, hV, hno⟩
  dsimp only at hk hV hno ⊢
  refine K_seq ?_
  refine K_region ?_
  refine KV (R_cmp rfl rfl rfl) rfl ?_
  refine K_nil ?_
  refine Q_then ?_
  refine K_seq ?_
  refine K_if rfl (fun h9 => ?_) (fun h9 => ?_)
  ·
    have hk' : k < xs.length := by omega
    obtain ⟨tb, to_, rfl, hta⟩ := (hv.mono hV).get hk'
    refine K_skip ?_
    refine Q_then ?_
    refine K_seq ?_
    refine K_block ?_
    refine K_seq ?_
    refine K_region ?_
    refine KV (R_move rfl) rfl ?_
    refine KV (R_assign rfl) rfl ?_
    refine K_nil ?_
    refine Q_then ?_
    refine K_seq ?_
    refine K_region ?_
    refine KV (R_move rfl) rfl ?_
    refine KV (R_move rfl) rfl ?_
    refine KV (R_move rfl) rfl ?_
    refine KV (R_indexN sl47 ty3 rfl rfl (by omega)) rfl ?_
    refine KV (R_loadH ty3 rfl (hta) rfl (fun _ => rfl) rfl) rfl ?_
    refine K_callO (first := []) [] [] (List.Perm.refl _) hcal rfl rfl rfl (hp xs[k] V (List.getElem_mem hk') hV) ?_
    rintro _ V' q hle rfl
    refine KO_own [] (List.nil_sublist _) ?_
    refine K_nil ?_
    refine Q_then ?_
    refine K_ifB rfl (fun h16 => ?_) (fun h16 => ?_)
    ·
      refine K_seq ?_
      refine K_region ?_
      refine KV (R_move rfl) rfl ?_
      refine KV (R_assign rfl) rfl ?_
      refine K_nil ?_
      refine Q_then ?_
      refine K_ret ?_
      refine Q_block_ret ?_
      refine Q_then_ret ?_
      refine Q_then_ret ?_
      refine Q_block_ret ?_
      refine Q_then_ret ?_
      refine results_gen (rs := [.tmp 4]) (vs := [_]) rfl ⟨rfl, trivial⟩ ?_
      exact ⟨k, rfl, ⟨fun _ => ⟨_, List.getElem_mem hk', h16⟩, fun _ => by omega⟩⟩
    ·
      have hno2 : ∀ j (h : j < xs.length), j < k + 1 → p xs[j] = false := by
        intro j h hj
        by_cases e : j = k
        · subst e; exact h16
        · exact hno j h (by omega)
      refine K_skip ?_
      refine Q_block ?_
      refine Q_then ?_
      refine K_region ?_
      refine KV (R_add rfl rfl (by omega)) rfl ?_
      refine KV (R_move rfl) rfl ?_
      refine K_nil ?_
      exact Q_next (k + 1, V') ⟨hk', hV.trans hle, hno2⟩ (by dsimp only; omega) ⟨rfl, rfl, rfl, rfl, trivial⟩ rfl rfl
  ·
    have hk' : k = xs.length := by omega
    refine K_exit ?_
    refine Q_then_exit ?_
    refine Q_then_exit ?_
    refine Q_block_exit ?_
    refine Q_then ?_
    refine K_seq ?_
    refine K_region ?_
    refine KV (R_assign rfl) rfl ?_
    refine K_nil ?_
    refine Q_then ?_
    refine K_ret ?_
    refine results_gen (rs := [.tmp 4]) (vs := [_]) rfl ⟨rfl, trivial⟩ ?_
    refine ⟨-1, rfl, ⟨fun h => by omega, ?_⟩⟩
    rintro ⟨x, hx, hpx⟩
    obtain ⟨j, hj, rfl⟩ := List.getElem_of_mem hx
    rw [hno j hj (by omega)] at hpx; cases hpx

theorem sacon_spec (f : Nat) (cap : List Value) (p : Int → Bool) (xs : List Int) (v : Value) (H : View) (hv : SI H v xs) (hl : xs.length ≤ 1099511627776) (hcal : callable Tryz.prog f = true)
    (hp : ∀ x V, x ∈ xs → VLe H V → Sat Tryz.prog f ([] ++ [Value.int .i64 x] ++ cap).toArray V (fun r _ => r = .bool (p x))) :
    Sat Tryz.prog F95 #[v, .func (.func f) #[] cap.toArray] H (fun r _ => r = .bool (xs.any p)) := by
  obtain ⟨a, cp, rfl⟩ := hv.shape
  refine enterO (n := 9) (args := [.slice a xs.length cp, .func (.func f) #[] cap.toArray]) Tryz.func84 rfl rfl rfl fun w0 => ?_
  refine K_seq ?_
  refine K_region ?_
  refine KV (R_assign rfl) rfl ?_
  refine K_nil ?_
  refine Q_then ?_
  refine K_seq ?_
  refine K_region ?_
  refine KV (R_move rfl) rfl ?_
  refine KV (R_move rfl) rfl ?_
  refine K_call c112 rfl rfl (saidx_spec f cap p xs _ H hv hl hcal hp) ?_
  rintro _ V' hle ⟨i, rfl, hi⟩
  refine KV (R_cmp rfl rfl rfl) rfl ?_
  refine KV (R_assign rfl) rfl ?_
  refine K_nil ?_
  refine Q_then ?_
  refine K_ret ?_
  refine results_gen (rs := [.tmp 4]) (vs := [_]) rfl ⟨rfl, trivial⟩ ?_
  refine congrArg Value.bool ?_
  by_cases h : 0 ≤ i
  · rw [decide_eq_true h]; exact (List.any_eq_true.2 (hi.1 h)).symm
  · rw [decide_eq_false h]; exact (Bool.eq_false_iff.2 fun h2 => h (hi.2 (List.any_eq_true.1 h2))).symm

theorem rank_spec (x : Int) (H : View) : Sat Tryz.prog F96 #[.int .i64 x] H (fun v _ => v = .bool (decide (x < 0 ∨ 2 < x))) := by
  refine enterO (n := 9) (args := [.int .i64 x]) Tryz.func85 rfl rfl rfl fun w0 => ?_
  refine K_seq ?_
  refine K_region ?_
  refine KV (R_assign rfl) rfl ?_
  refine K_nil ?_
  refine Q_then ?_
  refine K_seq ?_
  refine K_region ?_
  refine KV (R_move rfl) rfl ?_
  refine KV (R_cmp rfl rfl rfl) rfl ?_
  refine KV (R_move rfl) rfl ?_
  refine K_split ?_ ?_
  ·
    intro h5
    refine K_gno rfl rfl rfl rfl ?_
    refine K_gno rfl rfl rfl rfl ?_
    refine KV (R_pickT rfl rfl) rfl ?_
    refine KV (R_assign rfl) rfl ?_
    refine K_nil ?_
    refine Q_then ?_
    refine K_ret ?_
    refine results_gen (rs := [.tmp 2]) (vs := [_]) rfl ⟨rfl, trivial⟩ ?_
    simp [tupV, h5]
  ·
    intro h5
    refine K_gyes rfl rfl ?_
    refine KV (R_move rfl) rfl ?_
    refine K_gyes rfl rfl ?_
    refine KV (R_cmp rfl rfl rfl) rfl ?_
    refine KV (R_pickF rfl rfl) rfl ?_
    refine KV (R_assign rfl) rfl ?_
    refine K_nil ?_
    refine Q_then ?_
    refine K_ret ?_
    refine results_gen (rs := [.tmp 2]) (vs := [_]) rfl ⟨rfl, trivial⟩ ?_
    simp [tupV, h5]

theorem idx_spec (y : Int) (xs : List Int) (v : Value) (H : View) (hv : SI H v xs) (hl : xs.length ≤ 1099511627776) : Sat Tryz.prog F113 #[v, .int .i64 y] H (fun r _ => ∃ i : Int, r = .int .i64 i ∧ (0 ≤ i ↔ y ∈ xs)) := by
  obtain ⟨a, cp, rfl⟩ := hv.shape
  refine enterO (n := 19) (args := [.slice a xs.length cp, .int .i64 y]) Tryz.func111 rfl rfl rfl fun w0 => ?_
  refine K_seq ?_
  refine K_region ?_
  refine KV (R_assign rfl) rfl ?_
  refine K_nil ?_
  refine Q_then ?_
  refine K_seq ?_
  refine K_seq ?_
  refine K_region ?_
  refine KV (R_move rfl) rfl ?_
  refine KV (R_len sl47 rfl) rfl ?_
  refine KV (R_move rfl) rfl ?_
  refine K_nil ?_
  refine Q_then ?_
  refine K_block ?_
  refine K_loop (G := Nat) ⟨fun g => [(0, .slice a xs.length cp), (1, .int .i64 y), (7, .int .i64 xs.length), (8, .int .i64 (g : Int))], fun g => [], fun g => H, fun g => g ≤ xs.length ∧ ∀ j (h : j < xs.length), j < g → xs[j] ≠ y, fun g => xs.length - g⟩ 0 ⟨Nat.zero_le _, fun j _ h => by simp at h⟩ ⟨rfl, rfl, rfl, rfl, trivial⟩ rfl rfl ?_
  rintro k ⟨hk, hno⟩
  dsimp only at hk hno ⊢
  refine K_seq ?_
  refine K_region ?_
  refine KV (R_cmp rfl rfl rfl) rfl ?_
  refine K_nil ?_
  refine Q_then ?_
  refine K_seq ?_
  refine K_if rfl (fun h9 => ?_) (fun h9 => ?_)
  ·
    have hk' : k < xs.length := by omega
    obtain ⟨tb, to_, rfl, hta⟩ := hv.get hk'
    refine K_skip ?_
    refine Q_then ?_
    refine K_seq ?_
    refine K_block ?_
    refine K_seq ?_
    refine K_region ?_
    refine KV (R_move rfl) rfl ?_
    refine KV (R_assign rfl) rfl ?_
    refine K_nil ?_
    refine Q_then ?_
    refine K_seq ?_
    refine K_region ?_
    refine KV (R_move rfl) rfl ?_
    refine KV (R_move rfl) rfl ?_
    refine KV (R_move rfl) rfl ?_
    refine KV (R_indexN sl47 ty3 rfl rfl (by omega)) rfl ?_
    refine KV (R_loadH ty3 rfl (hta) rfl (fun _ => rfl) rfl) rfl ?_
    refine KV (R_cmp rfl rfl rfl) rfl ?_
    refine K_nil ?_
    refine Q_then ?_
    refine K_if rfl (fun h16 => ?_) (fun h16 => ?_)
    ·
      refine K_seq ?_
      refine K_region ?_
      refine KV (R_move rfl) rfl ?_
      refine KV (R_assign rfl) rfl ?_
      refine K_nil ?_
      refine Q_then ?_
      refine K_ret ?_
      refine Q_block_ret ?_
      refine Q_then_ret ?_
      refine Q_then_ret ?_
      refine Q_block_ret ?_
      refine Q_then_ret ?_
      refine results_gen (rs := [.tmp 4]) (vs := [_]) rfl ⟨rfl, trivial⟩ ?_
      exact ⟨k, rfl, ⟨fun _ => h16 ▸ List.getElem_mem hk', fun _ => by omega⟩⟩
    ·
      have hno2 : ∀ j (h : j < xs.length), j < k + 1 → xs[j] ≠ y := by
        intro j h hj
        by_cases e : j = k
        · subst e; exact fun e => h16 e.symm
        · exact hno j h (by omega)
      refine K_skip ?_
      refine Q_block ?_
      refine Q_then ?_
      refine K_region ?_
      refine KV (R_add rfl rfl (by omega)) rfl ?_
      refine KV (R_move rfl) rfl ?_
      refine K_nil ?_
      exact Q_next (k + 1) ⟨hk', hno2⟩ (by dsimp only; omega) ⟨rfl, rfl, rfl, rfl, trivial⟩ rfl rfl
  ·
    have hk' : k = xs.length := by omega
    refine K_exit ?_
    refine Q_then_exit ?_
    refine Q_then_exit ?_
    refine Q_block_exit ?_
    refine Q_then ?_
    refine K_seq ?_
    refine K_region ?_
    refine KV (R_assign rfl) rfl ?_
    refine K_nil ?_
    refine Q_then ?_
    refine K_ret ?_
    refine results_gen (rs := [.tmp 4]) (vs := [_]) rfl ⟨rfl, trivial⟩ ?_
    refine ⟨-1, rfl, ⟨fun h => by omega, ?_⟩⟩
    intro hx
    obtain ⟨j, hj, e⟩ := List.getElem_of_mem hx
    exact absurd e (hno j hj (by omega))

theorem mem_spec (y : Int) (xs : List Int) (v : Value) (H : View) (hv : SI H v xs) (hl : xs.length ≤ 1099511627776) : Sat Tryz.prog F97 #[v, .int .i64 y] H (fun r _ => r = .bool (decide (y ∈ xs))) := by
  obtain ⟨a, cp, rfl⟩ := hv.shape
  refine enterO (n := 9) (args := [.slice a xs.length cp, .int .i64 y]) Tryz.func86 rfl rfl rfl fun w0 => ?_
  refine K_seq ?_
  refine K_region ?_
  refine KV (R_assign rfl) rfl ?_
  refine K_nil ?_
  refine Q_then ?_
  refine K_seq ?_
  refine K_region ?_
  refine KV (R_move rfl) rfl ?_
  refine KV (R_move rfl) rfl ?_
  refine K_call c113 rfl rfl (idx_spec y xs _ H hv hl) ?_
  rintro _ V' hle ⟨i, rfl, hi⟩
  refine KV (R_cmp rfl rfl rfl) rfl ?_
  refine KV (R_assign rfl) rfl ?_
  refine K_nil ?_
  refine Q_then ?_
  refine K_ret ?_
  refine results_gen (rs := [.tmp 4]) (vs := [_]) rfl ⟨rfl, trivial⟩ ?_
  refine congrArg Value.bool ?_
  simp only [decide_eq_decide]
  exact hi

theorem acheck_spec (xs : List Int) (v : Value) (H : View) (hv : SI H v xs) (hl : xs.length ≤ 1099511627776) : Sat Tryz.prog F72 #[v] H (fun r _ => r = .int .i64 (ranksErr xs)) := by
  obtain ⟨a, cp, rfl⟩ := hv.shape
  refine enterO (n := 19) (args := [.slice a xs.length cp]) Tryz.func48 rfl rfl rfl fun w0 => ?_
  refine K_seq ?_
  refine K_region ?_
  refine KV (R_assign rfl) rfl ?_
  refine K_nil ?_
  refine Q_then ?_
  refine K_seq ?_
  refine K_block ?_
  refine K_seq ?_
  refine K_region ?_
  refine KV (R_move rfl) rfl ?_
  refine KV (R_len sl47 rfl) rfl ?_
  refine KV (R_cmp rfl rfl rfl) rfl ?_
  refine KV (R_move rfl) rfl ?_
  refine K_split ?_ ?_
  ·
    intro h7
    refine K_gno rfl rfl rfl rfl ?_
    refine K_gno rfl rfl rfl rfl ?_
    refine K_gno rfl rfl rfl rfl ?_
    refine KV (R_pickT rfl rfl) rfl ?_
    refine KV (R_assign rfl) rfl ?_
    refine K_nil ?_
    refine Q_then ?_
    refine K_ifT rfl ?_
    refine K_seq ?_
    refine K_region ?_
    refine KV (R_assign rfl) rfl ?_
    refine K_nil ?_
    refine Q_then ?_
    refine K_ret ?_
    refine Q_block_ret ?_
    refine Q_then_ret ?_
    refine results_gen (rs := [.tmp 2]) (vs := [_]) rfl ⟨rfl, trivial⟩ ?_
    simp only [tupV, ranksErr]
    rw [if_pos (.inl h7)]
  ·
    intro h7
    refine K_gyes rfl rfl ?_
    refine KV (R_move rfl) rfl ?_
    refine K_gyes rfl rfl ?_
    refine KV (R_len sl47 rfl) rfl ?_
    refine K_gyes rfl rfl ?_
    refine KV (R_cmp rfl rfl rfl) rfl ?_
    refine KV (R_pickF rfl rfl) rfl ?_
    refine K_split ?_ ?_
    ·
      intro h11
      refine KV (R_assign rfl) rfl ?_
      refine K_nil ?_
      refine Q_then ?_
      refine K_ifT rfl ?_
      refine K_seq ?_
      refine K_region ?_
      refine KV (R_assign rfl) rfl ?_
      refine K_nil ?_
      refine Q_then ?_
      refine K_ret ?_
      refine Q_block_ret ?_
      refine Q_then_ret ?_
      refine results_gen (rs := [.tmp 2]) (vs := [_]) rfl ⟨rfl, trivial⟩ ?_
      simp only [tupV, ranksErr]
      rw [if_pos (.inr h11)]
    ·
      intro h11
      refine KV (R_assign rfl) rfl ?_
      refine K_nil ?_
      refine Q_then ?_
      refine K_ifF rfl ?_
      refine K_seq ?_
      refine K_region ?_
      refine KV (R_move rfl) rfl ?_
      refine K_call c95 rfl rfl (sacon_spec F96 [] (fun x => decide (x < 0 ∨ 2 < x)) xs _ H hv hl c96 (fun x V _ _ => rank_spec x V)) ?_
      rintro _ V1 hle1 rfl
      refine KV (R_assign rfl) rfl ?_
      refine K_nil ?_
      refine Q_then ?_
      refine K_ifB rfl (fun h12 => ?_) (fun h12 => ?_)
      ·
        refine K_seq ?_
        refine K_region ?_
        refine KV (R_assign rfl) rfl ?_
        refine K_nil ?_
        refine Q_then ?_
        refine K_ret ?_
        refine Q_block_ret ?_
        refine Q_then_ret ?_
        refine results_gen (rs := [.tmp 2]) (vs := [_]) rfl ⟨rfl, trivial⟩ ?_
        simp only [tupV, ranksErr]
        rw [if_neg (by omega), if_pos h12]
      ·
        refine K_seq ?_
        refine K_region ?_
        refine KV (R_move rfl) rfl ?_
        refine K_call c97 rfl rfl (mem_spec 0 xs _ V1 (hv.mono hle1) hl) ?_
        rintro _ V2 hle2 rfl
        refine KV (R_notP rfl) rfl ?_
        refine KV (R_assign rfl) rfl ?_
        refine K_nil ?_
        refine Q_then ?_
        refine K_if rfl (fun h15 => ?_) (fun h15 => ?_)
        ·
          refine K_seq ?_
          refine K_region ?_
          refine KV (R_assign rfl) rfl ?_
          refine K_nil ?_
          refine Q_then ?_
          refine K_ret ?_
          refine Q_block_ret ?_
          refine Q_then_ret ?_
          refine results_gen (rs := [.tmp 2]) (vs := [_]) rfl ⟨rfl, trivial⟩ ?_
          simp only [tupV, ranksErr]
          rw [if_neg (by omega), if_neg (by rw [h12]; simp), if_pos h15]
        ·
          refine K_skip ?_
          refine Q_block ?_
          refine Q_then ?_
          refine K_seq ?_
          refine K_region ?_
          refine KV (R_assign rfl) rfl ?_
          refine K_nil ?_
          refine Q_then ?_
          refine K_ret ?_
          refine results_gen (rs := [.tmp 2]) (vs := [_]) rfl ⟨rfl, trivial⟩ ?_
          simp only [tupV, ranksErr]
          rw [if_neg (by omega), if_neg (by rw [h12]; simp), if_neg h15]

theorem nhas_spec (vr vu vf : Value) (n q : Int) (H : View) : Sat Tryz.prog F101 #[.agg #[vr, .int .i64 n, vu, vf], .int .i64 q] H (fun r _ => r = .bool (decide (0 ≤ q ∧ q < n))) := by
  refine enterO (n := 13) (args := [.agg #[vr, .int .i64 n, vu, vf], .int .i64 q]) Tryz.func67 rfl rfl rfl fun w0 => ?_
  refine K_seq ?_
  refine K_region ?_
  refine KA (A_box rfl) rfl fun b2 => ?_
  refine KV (R_assign rfl) rfl ?_
  refine K_nil ?_
  refine Q_then ?_
  refine K_seq ?_
  refine K_region ?_
  refine KV (R_move rfl) rfl ?_
  refine KV (R_cmp rfl rfl rfl) rfl ?_
  refine KV (R_move rfl) rfl ?_
  refine K_split ?_ ?_
  ·
    intro h7
    refine K_gyes rfl rfl ?_
    refine KV (R_move rfl) rfl ?_
    refine K_gyes rfl rfl ?_
    refine KV (R_fieldAddr 1 fd50_1 rfl) rfl ?_
    refine K_gyes rfl rfl ?_
    refine KV (R_loadO ty3 0 rfl rfl rfl rfl (fun _ => rfl) rfl) rfl ?_
    refine K_gyes rfl rfl ?_
    refine KV (R_cmp rfl rfl rfl) rfl ?_
    refine KV (R_pickT rfl rfl) rfl ?_
    refine KV (R_assign rfl) rfl ?_
    refine K_nil ?_
    refine Q_then ?_
    refine K_ret ?_
    refine results_gen (rs := [.tmp 4]) (vs := [_]) rfl ⟨rfl, trivial⟩ ?_
    simp [tupV, h7]
  ·
    intro h7
    refine K_gno rfl rfl rfl rfl ?_
    refine K_gno rfl rfl rfl rfl ?_
    refine K_gno rfl rfl rfl rfl ?_
    refine K_gno rfl rfl rfl rfl ?_
    refine KV (R_pickF rfl rfl) rfl ?_
    refine KV (R_assign rfl) rfl ?_
    refine K_nil ?_
    refine Q_then ?_
    refine K_ret ?_
    refine results_gen (rs := [.tmp 4]) (vs := [_]) rfl ⟨rfl, trivial⟩ ?_
    simp [tupV, h7]

theorem nbad_spec (vr vu vf : Value) (n : Int) (b : Nat) (q : Int) (H : View) (hb : At H b 0 [vr, .int .i64 n, vu, vf]) : Sat Tryz.prog F100 #[.int .i64 q, ptr b] H (fun r _ => r = .bool (badQ n q)) := by
  refine enterO (n := 8) (args := [.int .i64 q, ptr b]) Tryz.func66 rfl rfl rfl fun w0 => ?_
  refine K_seq ?_
  refine K_region ?_
  refine KV (R_assign rfl) rfl ?_
  refine K_nil ?_
  refine Q_then ?_
  refine K_seq ?_
  refine K_region ?_
  refine KV (R_loadH ty50 rfl (hb) rfl (fun e => by cases e) rfl) rfl ?_
  refine KV (R_move rfl) rfl ?_
  refine K_call c101 rfl rfl (nhas_spec vr vu vf n q H) ?_
  rintro _ V' hle rfl
  refine KV (R_not rfl) rfl ?_
  refine KV (R_assign rfl) rfl ?_
  refine K_nil ?_
  refine Q_then ?_
  refine K_ret ?_
  refine results_gen (rs := [.tmp 3]) (vs := [_]) rfl ⟨rfl, trivial⟩ ?_
  rfl

theorem ncheck_spec (a : Au) (vr vu vf : Value) (H : View) (ha : RepAu H a vr vu vf) : Sat Tryz.prog F77 #[.agg #[vr, .int .i64 a.states, vu, vf]] H (fun r _ => r = .int .i64 (auErr a)) := by
  obtain ⟨ra, rcp, rfl⟩ := ha.r.shape
  obtain ⟨fa, fcp, rfl⟩ := ha.f.shape
  obtain ⟨ua, ucp, rfl⟩ := ha.ushape
  have hrl := ha.rl
  have hul := ha.ul
  have hfl := ha.fl
  refine enterO (n := 74) (args := [.agg #[.slice ra a.ranks.length rcp, .int .i64 a.states, .slice ua a.rules.length ucp, .slice fa a.final.length fcp]]) Tryz.func33 rfl rfl rfl fun w0 => ?_
  refine K_seq ?_
  refine K_region ?_
  refine KA (A_box rfl) rfl fun b1 => ?_
  refine KV (R_assign rfl) rfl ?_
  refine K_nil ?_
  refine KQ_pubblk (by intro x hx; simp [feet] at hx) fun V0 hle0 hb1 => ?_
  have hA := At.of hb1
  have hA0 := hA.one (j := 0) rfl
  have hA1 := hA.one (j := 1) rfl
  have hA2 := hA.one (j := 2) rfl
  have hA3 := hA.one (j := 3) rfl
  refine Q_then ?_
  refine K_seq ?_
  refine K_seq ?_
  refine K_region ?_
  refine KV (R_fieldAddr 0 fd50_0 rfl) rfl ?_
  refine KV (R_loadH ty47 rfl (hA0) rfl (fun _ => rfl) rfl) rfl ?_
  refine K_call c72 rfl rfl (acheck_spec a.ranks _ V0 (ha.r.mono hle0) hrl) ?_
  rintro _ V1 hle1 rfl
  refine KV (R_assign rfl) rfl ?_
  refine K_nil ?_
  refine Q_then ?_
  refine K_seq ?_
  refine K_region ?_
  refine KV (R_move rfl) rfl ?_
  refine KV (R_cmp rfl rfl rfl) rfl ?_
  refine K_nil ?_
  refine Q_then ?_
  refine K_if rfl (fun h11 => ?_) (fun h11 => ?_)
  ·
    refine K_seq ?_
    refine K_region ?_
    refine KV (R_move rfl) rfl ?_
    refine KV (R_assign rfl) rfl ?_
    refine K_nil ?_
    refine Q_then ?_
    refine K_ret ?_
    refine Q_then_ret ?_
    refine results_gen (rs := [.tmp 2]) (vs := [_]) rfl ⟨rfl, trivial⟩ ?_
    simp only [tupV, auErr]
    rw [if_pos h11]
  ·
    refine K_skip ?_
    refine Q_then ?_
    refine K_seq ?_
    refine K_seq ?_
    refine K_region ?_
    refine KV (R_fieldAddr 1 fd50_1 rfl) rfl ?_
    refine KV (R_loadH ty3 rfl (hA1.mono hle1) rfl (fun _ => rfl) rfl) rfl ?_
    refine KV (R_cmp rfl rfl rfl) rfl ?_
    refine KV (R_move rfl) rfl ?_
    refine K_split ?_ ?_
    ·
      intro h16
      refine K_gno rfl rfl rfl rfl ?_
      refine K_gno rfl rfl rfl rfl ?_
      refine K_gno rfl rfl rfl rfl ?_
      refine KV (R_pickT rfl rfl) rfl ?_
      refine KV (R_move rfl) rfl ?_
      refine K_gno rfl rfl rfl rfl ?_
      refine K_gno rfl rfl rfl rfl ?_
      refine K_gno rfl rfl rfl rfl ?_
      refine K_gno rfl rfl rfl rfl ?_
      refine KV (R_pickT rfl rfl) rfl ?_
      refine K_nil ?_
      refine Q_then ?_
      refine K_ifT rfl ?_
      refine K_seq ?_
      refine K_region ?_
      refine KV (R_assign rfl) rfl ?_
      refine K_nil ?_
      refine Q_then ?_
      refine K_ret ?_
      refine Q_then_ret ?_
      refine results_gen (rs := [.tmp 2]) (vs := [_]) rfl ⟨rfl, trivial⟩ ?_
      simp only [tupV, auErr]
      rw [if_neg h11, if_pos (.inl h16)]
    ·
      intro h16
      refine K_gyes rfl rfl ?_
      refine KV (R_fieldAddr 1 fd50_1 rfl) rfl ?_
      refine K_gyes rfl rfl ?_
      refine KV (R_loadH ty3 rfl (hA1.mono hle1) rfl (fun _ => rfl) rfl) rfl ?_
      refine K_gyes rfl rfl ?_
      refine KV (R_cmp rfl rfl rfl) rfl ?_
      refine KV (R_pickF rfl rfl) rfl ?_
      refine KV (R_move rfl) rfl ?_
      refine K_split ?_ ?_
      ·
        intro h21
        refine K_gno rfl rfl rfl rfl ?_
        refine K_gno rfl rfl rfl rfl ?_
        refine K_gno rfl rfl rfl rfl ?_
        refine K_gno rfl rfl rfl rfl ?_
        refine KV (R_pickT rfl rfl) rfl ?_
        refine K_nil ?_
        refine Q_then ?_
        refine K_ifT rfl ?_
        refine K_seq ?_
        refine K_region ?_
        refine KV (R_assign rfl) rfl ?_
        refine K_nil ?_
        refine Q_then ?_
        refine K_ret ?_
        refine Q_then_ret ?_
        refine results_gen (rs := [.tmp 2]) (vs := [_]) rfl ⟨rfl, trivial⟩ ?_
        simp only [tupV, auErr]
        rw [if_neg h11, if_pos (.inr (.inl h21))]
      ·
        intro h21
        refine K_gyes rfl rfl ?_
        refine KV (R_fieldAddr 2 fd50_2 rfl) rfl ?_
        refine K_gyes rfl rfl ?_
        refine KV (R_loadH ty48 rfl (hA2.mono hle1) rfl (fun _ => rfl) rfl) rfl ?_
        refine K_gyes rfl rfl ?_
        refine KV (R_len sl48 rfl) rfl ?_
        refine K_gyes rfl rfl ?_
        refine KV (R_cmp rfl rfl rfl) rfl ?_
        refine KV (R_pickF rfl rfl) rfl ?_
        refine K_nil ?_
        refine Q_then ?_
        refine K_if rfl (fun h26 => ?_) (fun h26 => ?_)
        ·
          refine K_seq ?_
          refine K_region ?_
          refine KV (R_assign rfl) rfl ?_
          refine K_nil ?_
          refine Q_then ?_
          refine K_ret ?_
          refine Q_then_ret ?_
          refine results_gen (rs := [.tmp 2]) (vs := [_]) rfl ⟨rfl, trivial⟩ ?_
          simp only [tupV, auErr]
          rw [if_neg h11, if_pos (.inr (.inr h26))]
        ·
          refine K_skip ?_
          refine Q_then ?_
          refine K_seq ?_
          refine K_region ?_
          refine KV (R_makeFunc rfl rfl) rfl ?_
          refine KV (R_assign rfl) rfl ?_
          refine K_nil ?_
          refine Q_then ?_
          refine K_seq ?_
          refine K_seq ?_
          refine K_region ?_
          refine KV (R_fieldAddr 2 fd50_2 rfl) rfl ?_
          refine KV (R_loadH ty48 rfl (hA2.mono hle1) rfl (fun _ => rfl) rfl) rfl ?_
          refine KV (R_len sl48 rfl) rfl ?_
          refine KV (R_move rfl) rfl ?_
          refine K_nil ?_
          refine Q_then ?_
          refine K_block ?_
          refine K_loop (G := Nat × View) ⟨fun g => [(1, ptr b1), (4, .func (.func F100) #[] #[ptr b1]), (29, .slice ua a.rules.length ucp), (30, .int .i64 a.rules.length), (31, .int .i64 (g.1 : Int))], fun g => [], fun g => g.2, fun g => g.1 ≤ a.rules.length ∧ VLe V0 g.2 ∧ ∀ j (hj : j < a.rules.length), j < g.1 → ruleErr a a.rules[j] = 0, fun g => a.rules.length - g.1⟩ (0, V1) ⟨Nat.zero_le _, hle1, fun j _ h => by simp at h⟩ ⟨rfl, rfl, rfl, rfl, rfl, trivial⟩ rfl rfl ?_
          rintro ⟨k, V⟩ ⟨hk, hV, hno⟩
          dsimp only at hk hV hno ⊢
          have hbase : auErr a = if rulesErr a a.rules ≠ 0 then rulesErr a a.rules else if (a.final.any (badQ a.states)) = true then 2 else 0 := by
            unfold auErr
            rw [if_neg h11, if_neg (by omega)]
          refine K_seq ?_
          refine K_region ?_
          refine KV (R_cmp rfl rfl rfl) rfl ?_
          refine K_nil ?_
          refine Q_then ?_
          refine K_seq ?_
          refine K_if rfl (fun h32 => ?_) (fun h32 => ?_)
          ·
            have hk' : k < a.rules.length := by omega
            obtain ⟨ub, uo, ucp2, xa, xcp, hue, hrc, hsr, hsym, hto, hal⟩ := (ha.mono (hle0.trans hV)).rule hk'
            cases hue
            have hre : ruleErr a a.rules[k] ≠ 0 → auErr a = ruleErr a a.rules[k] := fun h => by rw [hbase, rulesErr_take hno hk' h, if_pos h]
            refine K_skip ?_
            refine Q_then ?_
            refine K_seq ?_
            refine K_block ?_
            refine K_seq ?_
            refine K_region ?_
            refine KV (R_indexN sl48 ty85 rfl rfl (by omega)) rfl ?_
            refine KV (R_loadH ty85 rfl (hrc) rfl (fun e => by cases e) rfl) rfl ?_
            refine KA (A_alloc z85) rfl fun b6 => ?_
            refine K_store ty85 0 rfl rfl rfl rfl rfl rfl ?_
            refine K_nil ?_
            refine Q_then ?_
            refine K_block ?_
            refine K_seq ?_
            refine K_region ?_
            refine KV (R_fieldAddr 0 fd85_0 rfl) rfl ?_
            refine KV (R_loadO ty3 0 rfl rfl rfl rfl (fun _ => rfl) rfl) rfl ?_
            refine KV (R_cmp rfl rfl rfl) rfl ?_
            refine KV (R_move rfl) rfl ?_
            refine K_split ?_ ?_
            ·
              intro h39
              refine K_gno rfl rfl rfl rfl ?_
              refine K_gno rfl rfl rfl rfl ?_
              refine K_gno rfl rfl rfl rfl ?_
              refine K_gno rfl rfl rfl rfl ?_
              refine K_gno rfl rfl rfl rfl ?_
              refine K_gno rfl rfl rfl rfl ?_
              refine KV (R_pickT rfl rfl) rfl ?_
              refine KV (R_assign rfl) rfl ?_
              refine K_nil ?_
              refine Q_then ?_
              refine K_ifT rfl ?_
              refine K_seq ?_
              refine K_region ?_
              refine KV (R_assign rfl) rfl ?_
              refine K_nil ?_
              refine Q_then ?_
              refine K_ret ?_
              refine Q_block_ret ?_
              refine Q_block_ret ?_
              refine Q_then_ret ?_
              refine Q_then_ret ?_
              refine Q_block_ret ?_
              refine Q_then_ret ?_
              refine results_gen (rs := [.tmp 2]) (vs := [_]) rfl ⟨rfl, trivial⟩ ?_
              have e : ruleErr a a.rules[k] = 6 := by
                simp only [ruleErr]
                rw [if_pos (.inl h39)]
              rw [hre (by rw [e]; decide), e]
              rfl
            ·
              intro h39
              have hs0 : 0 ≤ a.rules[k].sym := by omega
              refine K_gyes rfl rfl ?_
              refine KV (R_fieldAddr 0 fd85_0 rfl) rfl ?_
              refine K_gyes rfl rfl ?_
              refine KV (R_loadO ty3 0 rfl rfl rfl rfl (fun _ => rfl) rfl) rfl ?_
              refine K_gyes rfl rfl ?_
              refine KV (R_fieldAddr 0 fd50_0 rfl) rfl ?_
              refine K_gyes rfl rfl ?_
              refine KV (R_loadH ty47 rfl (hA0.mono hV) rfl (fun _ => rfl) rfl) rfl ?_
              refine K_gyes rfl rfl ?_
              refine KV (R_len sl47 rfl) rfl ?_
              refine K_gyes rfl rfl ?_
              refine KV (R_cmp rfl rfl rfl) rfl ?_
              refine KV (R_pickF rfl rfl) rfl ?_
              refine KV (R_assign rfl) rfl ?_
              refine K_nil ?_
              refine Q_then ?_
              refine K_if rfl (fun h35 => ?_) (fun h35 => ?_)
              ·
                refine K_seq ?_
                refine K_region ?_
                refine KV (R_assign rfl) rfl ?_
                refine K_nil ?_
                refine Q_then ?_
                refine K_ret ?_
                refine Q_block_ret ?_
                refine Q_block_ret ?_
                refine Q_then_ret ?_
                refine Q_then_ret ?_
                refine Q_block_ret ?_
                refine Q_then_ret ?_
                refine results_gen (rs := [.tmp 2]) (vs := [_]) rfl ⟨rfl, trivial⟩ ?_
                have e : ruleErr a a.rules[k] = 6 := by
                  simp only [ruleErr]
                  rw [if_pos (.inr h35)]
                rw [hre (by rw [e]; decide), e]
                rfl
              ·
                have hs1 : a.rules[k].sym < a.ranks.length := by omega
                have hs2 : a.rules[k].sym.toNat < a.ranks.length := by omega
                obtain ⟨rb, ro, rfl, hrk⟩ := (ha.mono (hle0.trans hV)).r.get hs2
                have hgd : a.ranks.getD a.rules[k].sym.toNat 0 = a.ranks[a.rules[k].sym.toNat] := by simp [List.getD, hs2]
                refine K_seq ?_
                refine K_regionD (fin := false) (R := [0, 1, 2, 3, 4, 5, 6, 7, 8, 9, 10]) (by kernel_rfl) mixed (.cons_cons _ (List.nil_sublist _)) ?_
                refine D_val rfl rfl rfl (R_fieldAddr 1 fd85_1 rfl) ?_
                refine D_val rfl rfl rfl (R_loadO ty25 0 rfl rfl rfl rfl (fun _ => rfl) rfl) ?_
                refine D_val rfl rfl rfl (R_len sl25 rfl) ?_
                refine D_val rfl rfl rfl (R_fieldAddr 0 fd50_0 rfl) ?_
                refine D_val rfl rfl rfl (R_loadH ty47 rfl (hA0.mono hV) rfl (fun _ => rfl) rfl) ?_
                refine D_val rfl rfl rfl (R_fieldAddr 0 fd85_0 rfl) ?_
                refine D_val rfl rfl rfl (R_loadO ty3 0 rfl rfl rfl rfl (fun _ => rfl) rfl) ?_
                refine D_val rfl rfl rfl (R_index sl47 ty3 rfl rfl ⟨hs0, hs1⟩) ?_
                refine D_val rfl rfl rfl (R_loadH ty3 rfl (hrk) rfl (fun _ => rfl) rfl) ?_
                refine D_val rfl rfl rfl (R_cmp rfl rfl rfl) ?_
                refine D_val rfl rfl rfl (R_assign rfl) ?_
                refine D_done ?_
                refine Q_then ?_
                refine K_if rfl (fun h47 => ?_) (fun h47 => ?_)
                ·
                  refine K_seq ?_
                  refine K_region ?_
                  refine KV (R_assign rfl) rfl ?_
                  refine K_nil ?_
                  refine Q_then ?_
                  refine K_ret ?_
                  refine Q_block_ret ?_
                  refine Q_block_ret ?_
                  refine Q_then_ret ?_
                  refine Q_then_ret ?_
                  refine Q_block_ret ?_
                  refine Q_then_ret ?_
                  refine results_gen (rs := [.tmp 2]) (vs := [_]) rfl ⟨rfl, trivial⟩ ?_
                  have e : ruleErr a a.rules[k] = 3 := by
                    simp only [ruleErr]
                    rw [if_neg (by omega), hgd, if_pos h47]
                  rw [hre (by rw [e]; decide), e]
                  rfl
                ·
                  refine K_seq ?_
                  refine K_region ?_
                  refine KV (R_fieldAddr 1 fd85_1 rfl) rfl ?_
                  refine KV (R_loadO ty25 0 rfl rfl rfl rfl (fun _ => rfl) rfl) rfl ?_
                  refine KV (R_move rfl) rfl ?_
                  refine K_call c86 rfl rfl (sicon_spec F100 [ptr b1] (badQ a.states) a.rules[k].args _ V hsr hal c100 (fun x W _ hW => nbad_spec _ _ _ a.states b1 x W (hA.mono (hV.trans hW)))) ?_
                  rintro _ V2 hle2 rfl
                  refine KV (R_move rfl) rfl ?_
                  refine K_splitB ?_ ?_
                  ·
                    intro h63
                    refine K_gno rfl rfl rfl rfl ?_
                    refine K_gno rfl rfl rfl rfl ?_
                    refine K_gno rfl rfl rfl rfl ?_
                    refine K_gno rfl rfl rfl rfl ?_
                    refine KV (R_pickT rfl rfl) rfl ?_
                    refine KV (R_assign rfl) rfl ?_
                    refine K_nil ?_
                    refine Q_then ?_
                    refine K_ifT rfl ?_
                    refine K_seq ?_
                    refine K_region ?_
                    refine KV (R_assign rfl) rfl ?_
                    refine K_nil ?_
                    refine Q_then ?_
                    refine K_ret ?_
                    refine Q_block_ret ?_
                    refine Q_block_ret ?_
                    refine Q_then_ret ?_
                    refine Q_then_ret ?_
                    refine Q_block_ret ?_
                    refine Q_then_ret ?_
                    refine results_gen (rs := [.tmp 2]) (vs := [_]) rfl ⟨rfl, trivial⟩ ?_
                    have e : ruleErr a a.rules[k] = 2 := by
                      simp only [ruleErr]
                      rw [if_neg (by omega), hgd, if_neg h47, h63]; rfl
                    rw [hre (by rw [e]; decide), e]
                    rfl
                  ·
                    intro h63
                    refine K_gyes rfl rfl ?_
                    refine KV (R_move rfl) rfl ?_
                    refine K_gyes rfl rfl ?_
                    refine KV (R_fieldAddr 2 fd85_2 rfl) rfl ?_
                    refine K_gyes rfl rfl ?_
                    refine KV (R_loadO ty3 0 rfl rfl rfl rfl (fun _ => rfl) rfl) rfl ?_
                    refine K_gyes rfl rfl ?_
                    refine K_callO (first := []) [] _ (List.Perm.refl _) c100 rfl rfl rfl (nbad_spec _ _ _ a.states b1 a.rules[k].to V2 (hA.mono (hV.trans hle2))) ?_
                    rintro _ V3 q hle3 rfl
                    refine KO_own _ (List.sublist_append_right q _) ?_
                    refine KV (R_pickF rfl rfl) rfl ?_
                    refine KV (R_assign rfl) rfl ?_
                    refine K_nil ?_
                    refine Q_then ?_
                    refine K_ifB rfl (fun h58 => ?_) (fun h58 => ?_)
                    ·
                      refine K_seq ?_
                      refine K_region ?_
                      refine KV (R_assign rfl) rfl ?_
                      refine K_nil ?_
                      refine Q_then ?_
                      refine K_ret ?_
                      refine Q_block_ret ?_
                      refine Q_block_ret ?_
                      refine Q_then_ret ?_
                      refine Q_then_ret ?_
                      refine Q_block_ret ?_
                      refine Q_then_ret ?_
                      refine results_gen (rs := [.tmp 2]) (vs := [_]) rfl ⟨rfl, trivial⟩ ?_
                      have e : ruleErr a a.rules[k] = 2 := by
                        simp only [ruleErr]
                        rw [if_neg (by omega), hgd, if_neg h47, h63, h58]; rfl
                      rw [hre (by rw [e]; decide), e]
                      rfl
                    ·
                      have hno2 : ∀ j (hj : j < a.rules.length), j < k + 1 → ruleErr a a.rules[j] = 0 := by
                        intro j hj hjk
                        by_cases e : j = k
                        · subst e
                          simp only [ruleErr]
                          rw [if_neg (by omega), hgd, if_neg h47, h63, h58]
                          simp
                        · exact hno j hj (by omega)
                      refine K_skip ?_
                      refine Q_block ?_
                      refine Q_block ?_
                      refine Q_then ?_
                      refine K_region ?_
                      refine KV (R_add rfl rfl (by omega)) rfl ?_
                      refine KV (R_move rfl) rfl ?_
                      refine K_nil ?_
                      refine KQ_sel [] rfl ?_
                      exact Q_next (k + 1, V3) ⟨hk', hV.trans (hle2.trans hle3), hno2⟩ (by dsimp only; omega) ⟨rfl, rfl, rfl, rfl, rfl, trivial⟩ rfl rfl
          ·
            have hk' : k = a.rules.length := by omega
            subst hk'
            have hrz : rulesErr a a.rules = 0 := rulesErr_zero fun j hj => hno j hj hj
            rw [hrz, if_neg (by decide)] at hbase
            refine K_exit ?_
            refine Q_then_exit ?_
            refine Q_then_exit ?_
            refine Q_block_exit ?_
            refine Q_then ?_
            refine K_seq ?_
            refine K_seq ?_
            refine K_region ?_
            refine KV (R_fieldAddr 3 fd50_3 rfl) rfl ?_
            refine KV (R_loadH ty25 rfl (hA3.mono hV) rfl (fun _ => rfl) rfl) rfl ?_
            refine KV (R_move rfl) rfl ?_
            refine K_call c86 rfl rfl (sicon_spec F100 [ptr b1] (badQ a.states) a.final _ V ((ha.mono (hle0.trans hV)).f) hfl c100 (fun x W _ hW => nbad_spec _ _ _ a.states b1 x W (hA.mono (hV.trans hW)))) ?_
            rintro _ V2 hle2 rfl
            refine K_nil ?_
            refine Q_then ?_
            refine K_ifB rfl (fun h73 => ?_) (fun h73 => ?_)
            ·
              refine K_seq ?_
              refine K_region ?_
              refine KV (R_assign rfl) rfl ?_
              refine K_nil ?_
              refine Q_then ?_
              refine K_ret ?_
              refine Q_then_ret ?_
              refine results_gen (rs := [.tmp 2]) (vs := [_]) rfl ⟨rfl, trivial⟩ ?_
              rw [hbase, if_pos h73]
              rfl
            ·
              refine K_skip ?_
              refine Q_then ?_
              refine K_seq ?_
              refine K_region ?_
              refine KV (R_assign rfl) rfl ?_
              refine K_nil ?_
              refine Q_then ?_
              refine K_ret ?_
              refine results_gen (rs := [.tmp 2]) (vs := [_]) rfl ⟨rfl, trivial⟩ ?_
              rw [hbase, h73]
              rfl
end Go.Proofs.X

namespace Go.Proofs.X
open Go Pal Go.Proofs
attribute [local irreducible] Pal.KO Pal.KC Pal.KQ Pal.KD
theorem z3 : zeroOk Tryz.prog T3 (.int .i64 0) := .of (by kernel_rfl)
theorem c2 : callable Tryz.prog F2 = true := by kernel_rfl
theorem ap25 : App Tryz.prog T25 T3 1 8 := .of sl25 (by kernel_rfl)
theorem ap47 : App Tryz.prog T47 T3 1 8 := .of sl47 (by kernel_rfl)
theorem clone47_spec (xs : List Int) (v : Value) (H : View) (hv : SI H v xs) (hl : xs.length ≤ 1099511627776) : Sat Tryz.prog F45 #[v] H (fun w H' => SI H' w xs) := by
  obtain ⟨a, cp, rfl⟩ := hv.shape
  refine enterO (n := 8) (args := [.slice a xs.length cp]) Tryz.func78 rfl rfl rfl fun w0 => ?_
  refine K_seq ?_
  refine K_region ?_
  refine KV (R_assign rfl) rfl ?_
  refine K_nil ?_
  refine Q_then ?_
  refine K_seq ?_
  refine K_seq ?_
  refine K_region ?_
  refine KV (R_move rfl) rfl ?_
  refine KV (R_sliceNil sl47 rfl rfl) rfl ?_
  refine K_nil ?_
  refine Q_then ?_
  cases a with
  | none =>
    obtain ⟨a2, c2, h2, h3⟩ := hv.1
    cases h2
    have hx0 : xs = [] := by
      rcases h3 with ⟨h3, _⟩ | ⟨b, off, h3, _⟩
      · exact List.eq_nil_of_length_eq_zero h3
      · cases h3
    subst hx0
    refine K_ifT rfl ?_
    refine K_seq ?_
    refine K_region ?_
    refine KV (R_assign rfl) rfl ?_
    refine K_nil ?_
    refine Q_then ?_
    refine K_ret ?_
    refine Q_then_ret ?_
    refine results_gen (rs := [.tmp 2]) (vs := [_]) rfl ⟨rfl, trivial⟩ ?_
    exact ⟨⟨none, 0, rfl, .inl ⟨rfl, rfl⟩⟩, by simp⟩
  | some aa =>
    refine K_ifF rfl ?_
    refine K_skip ?_
    refine Q_then ?_
    refine K_seq ?_
    refine K_region ?_
    refine KA (A_buildSlice (vs := []) sl47 ty3 z3 rfl rfl (by simp) (by simp) rfl (by decide)) rfl fun b5 => ?_
    refine KV (R_move rfl) rfl ?_
    refine K_appendPubH (k := 0) (xs := []) ap47 rfl ⟨_, 0, rfl, .inl ⟨rfl, rfl⟩⟩ rfl rfl hv.1 (by simp [ints]) ⟨by omega, by omega⟩ rfl fun v7 V1 hle1 hv7 => ?_
    refine KV (R_assign rfl) rfl ?_
    refine K_nil ?_
    refine Q_then ?_
    refine K_ret ?_
    refine results_gen (rs := [.tmp 2]) (vs := [_]) rfl ⟨rfl, trivial⟩ ?_
    refine ⟨?_, hv.2⟩
    have h7 := hv7.1
    rw [Nat.zero_add, List.nil_append] at h7
    exact h7

end Go.Proofs.X

namespace Go.Proofs.X
open Go Pal Go.Proofs
attribute [local irreducible] Pal.KO Pal.KC Pal.KQ Pal.KD

theorem rcheck31_spec (xs : List Int) (v : Value) (H : View) (hv : SI H v xs) (hl : xs.length ≤ 1099511627776) : Sat Tryz.prog F36 #[v] H (fun r _ => r = .int .i64 (ranksErr xs)) := by
  obtain ⟨a, cp, rfl⟩ := hv.shape
  refine enterO (n := 40) (args := [.slice a xs.length cp]) Tryz.func20 rfl rfl rfl fun w0 => ?_
  refine K_seq ?_
  refine K_region ?_
  refine KV (R_assign rfl) rfl ?_
  refine K_nil ?_
  refine Q_then ?_
  refine K_seq ?_
  refine K_seq ?_
  refine K_region ?_
  refine KV (R_move rfl) rfl ?_
  refine KV (R_len sl25 rfl) rfl ?_
  refine KV (R_cmp rfl rfl rfl) rfl ?_
  refine KV (R_move rfl) rfl ?_
  refine K_split ?_ ?_
  ·
    intro h8
    refine K_gno rfl rfl rfl rfl ?_
    refine K_gno rfl rfl rfl rfl ?_
    refine K_gno rfl rfl rfl rfl ?_
    refine KV (R_pickT rfl rfl) rfl ?_
    refine K_nil ?_
    refine Q_then ?_
    refine K_ifT rfl ?_
    refine K_seq ?_
    refine K_region ?_
    refine KV (R_assign rfl) rfl ?_
    refine K_nil ?_
    refine Q_then ?_
    refine K_ret ?_
    refine Q_then_ret ?_
    refine results_gen (rs := [.tmp 2]) (vs := [_]) rfl ⟨rfl, trivial⟩ ?_
    simp only [tupV, ranksErr]
    rw [if_pos (.inl (by omega))]
  ·
    intro h8
    refine K_gyes rfl rfl ?_
    refine KV (R_move rfl) rfl ?_
    refine K_gyes rfl rfl ?_
    refine KV (R_len sl25 rfl) rfl ?_
    refine K_gyes rfl rfl ?_
    refine KV (R_cmp rfl rfl rfl) rfl ?_
    refine KV (R_pickF rfl rfl) rfl ?_
    refine K_nil ?_
    refine Q_then ?_
    refine K_if rfl (fun h12 => ?_) (fun h12 => ?_)
    ·
      refine K_seq ?_
      refine K_region ?_
      refine KV (R_assign rfl) rfl ?_
      refine K_nil ?_
      refine Q_then ?_
      refine K_ret ?_
      refine Q_then_ret ?_
      refine results_gen (rs := [.tmp 2]) (vs := [_]) rfl ⟨rfl, trivial⟩ ?_
      simp only [tupV, ranksErr]
      rw [if_pos (.inr (by omega))]
    ·
      refine K_skip ?_
      refine Q_then ?_
      refine K_seq ?_
      refine K_region ?_
      refine KV (R_assign rfl) rfl ?_
      refine K_nil ?_
      refine Q_then ?_
      refine K_seq ?_
      refine K_seq ?_
      refine K_region ?_
      refine KV (R_assign rfl) rfl ?_
      refine K_nil ?_
      refine Q_then ?_
      refine K_block ?_
      refine K_loopD (G := Nat) [2, 3, 4, 13, 14, 15, 16, 17, 18, 19, 20, 21, 22, 23, 24, 25, 26, 27, 28, 29, 30, 31, 32, 33, 34, 35, 36, 37, 38] (fun g => [(4, .int .i64 (g : Int)), (3, .bool ((xs.take g).all fun x => decide (0 < x)))]) (fun hl g => hl) (fun g => H) (fun g => (g ≤ xs.length) ∧ (∀ j (h : j < xs.length), j < g → ¬ (xs[j] < 0 ∨ 2 < xs[j]))) (fun g => xs.length - g) 0 ⟨Nat.zero_le _, fun j _ h => by simp at h⟩ ⟨rfl, rfl, trivial⟩ (by simp only [args0, Nat.reduceAdd, del, memN, beqN, Nat.reduceBEq, cond_true, cond_false]; rfl) rfl rfl ?_
      rintro k ⟨hk, hno⟩
      try dsimp only at hk
      try dsimp only at hno
      dsimp only [List.set, List.cons_append, List.nil_append]
      refine K_seq ?_
      refine K_seq ?_
      refine K_region ?_
      refine KV (R_move rfl) rfl ?_
      refine KV (R_move rfl) rfl ?_
      refine KV (R_len sl25 rfl) rfl ?_
      refine KV (R_cmp rfl rfl rfl) rfl ?_
      refine K_nil ?_
      refine Q_then ?_
      refine K_if rfl (fun h16 => ?_) (fun h16 => ?_)
      ·
        have hk' : k < xs.length := by omega
        obtain ⟨tb, to_, rfl, hta⟩ := hv.get hk'
        refine K_skip ?_
        refine Q_then ?_
        refine K_seq ?_
        refine K_block ?_
        refine K_seq ?_
        refine K_seq ?_
        refine K_region ?_
        refine KV (R_move rfl) rfl ?_
        refine KV (R_move rfl) rfl ?_
        refine KV (R_indexN sl25 ty3 rfl rfl (by omega)) rfl ?_
        refine KV (R_loadH ty3 rfl (hta) rfl (fun _ => rfl) rfl) rfl ?_
        refine KV (R_cmp rfl rfl rfl) rfl ?_
        refine KV (R_move rfl) rfl ?_
        refine K_split ?_ ?_
        ·
          intro h24
          refine K_gno rfl rfl rfl rfl ?_
          refine K_gno rfl rfl rfl rfl ?_
          refine K_gno rfl rfl rfl rfl ?_
          refine K_gno rfl rfl rfl rfl ?_
          refine K_gno rfl rfl rfl rfl ?_
          refine KV (R_pickT rfl rfl) rfl ?_
          refine K_nil ?_
          refine Q_then ?_
          refine K_ifT rfl ?_
          refine K_seq ?_
          refine K_region ?_
          refine KV (R_assign rfl) rfl ?_
          refine K_nil ?_
          refine Q_then ?_
          refine K_ret ?_
          refine Q_then_ret ?_
          refine Q_block_ret ?_
          refine Q_then_ret ?_
          refine Q_then_ret ?_
          refine Q_block_ret ?_
          refine Q_then_ret ?_
          refine results_gen (rs := [.tmp 2]) (vs := [_]) rfl ⟨rfl, trivial⟩ ?_
          have hany : (xs.any fun x => decide (x < 0 ∨ 2 < x)) = true := List.any_eq_true.2 ⟨_, List.getElem_mem hk', by simp; omega⟩
          simp only [tupV, ranksErr]
          rw [if_neg (by omega), if_pos hany]
        ·
          intro h24
          refine K_gyes rfl rfl ?_
          refine KV (R_move rfl) rfl ?_
          refine K_gyes rfl rfl ?_
          refine KV (R_move rfl) rfl ?_
          refine K_gyes rfl rfl ?_
          refine KV (R_indexN sl25 ty3 rfl rfl (by omega)) rfl ?_
          refine K_gyes rfl rfl ?_
          refine KV (R_loadH ty3 rfl (hta) rfl (fun _ => rfl) rfl) rfl ?_
          refine K_gyes rfl rfl ?_
          refine KV (R_cmp rfl rfl rfl) rfl ?_
          refine KV (R_pickF rfl rfl) rfl ?_
          refine K_nil ?_
          refine Q_then ?_
          refine K_if rfl (fun h30 => ?_) (fun h30 => ?_)
          ·
            refine K_seq ?_
            refine K_region ?_
            refine KV (R_assign rfl) rfl ?_
            refine K_nil ?_
            refine Q_then ?_
            refine K_ret ?_
            refine Q_then_ret ?_
            refine Q_block_ret ?_
            refine Q_then_ret ?_
            refine Q_then_ret ?_
            refine Q_block_ret ?_
            refine Q_then_ret ?_
            refine results_gen (rs := [.tmp 2]) (vs := [_]) rfl ⟨rfl, trivial⟩ ?_
            have hany : (xs.any fun x => decide (x < 0 ∨ 2 < x)) = true := List.any_eq_true.2 ⟨_, List.getElem_mem hk', by simp; omega⟩
            simp only [tupV, ranksErr]
            rw [if_neg (by omega), if_pos hany]
          ·
            have hno2 : ∀ j (h : j < xs.length), j < k + 1 → ¬ (xs[j] < 0 ∨ 2 < xs[j]) := by
              intro j h hj
              by_cases e : j = k
              · subst e; omega
              · exact hno j h (by omega)
            refine K_skip ?_
            refine Q_then ?_
            refine K_region ?_
            refine KV (R_move rfl) rfl ?_
            refine KV (R_move rfl) rfl ?_
            refine K_splitB ?_ ?_
            ·
              intro h32
              refine K_gyes rfl rfl ?_
              refine KV (R_move rfl) rfl ?_
              refine K_gyes rfl rfl ?_
              refine KV (R_move rfl) rfl ?_
              refine K_gyes rfl rfl ?_
              refine KV (R_indexN sl25 ty3 rfl rfl (by omega)) rfl ?_
              refine K_gyes rfl rfl ?_
              refine KV (R_loadH ty3 rfl (hta) rfl (fun _ => rfl) rfl) rfl ?_
              refine K_gyes rfl rfl ?_
              refine KV (R_cmp rfl rfl rfl) rfl ?_
              refine KV (R_pickT rfl rfl) rfl ?_
              refine KV (R_assign rfl) rfl ?_
              refine K_nil ?_
              refine Q_block ?_
              refine Q_then ?_
              refine K_region ?_
              refine KV (R_move rfl) rfl ?_
              refine KV (R_add rfl rfl (by omega)) rfl ?_
              refine KV (R_assign rfl) rfl ?_
              refine K_nil ?_
              refine Q_nextD (k + 1) ⟨hk', hno2⟩ (by (try dsimp only); omega) ⟨rfl, congrArg (fun z => some (Value.bool z)) (by rw [all_succ hk', h32]; rfl), trivial⟩ rfl rfl rfl
            ·
              intro h32
              refine K_gno rfl rfl rfl rfl ?_
              refine K_gno rfl rfl rfl rfl ?_
              refine K_gno rfl rfl rfl rfl ?_
              refine K_gno rfl rfl rfl rfl ?_
              refine K_gno rfl rfl rfl rfl ?_
              refine KV (R_pickF rfl rfl) rfl ?_
              refine KV (R_assign rfl) rfl ?_
              refine K_nil ?_
              refine Q_block ?_
              refine Q_then ?_
              refine K_region ?_
              refine KV (R_move rfl) rfl ?_
              refine KV (R_add rfl rfl (by omega)) rfl ?_
              refine KV (R_assign rfl) rfl ?_
              refine K_nil ?_
              refine Q_nextD (k + 1) ⟨hk', hno2⟩ (by (try dsimp only); omega) ⟨rfl, congrArg (fun z => some (Value.bool z)) (by rw [all_succ hk', h32]; rfl), trivial⟩ rfl rfl rfl
      ·
        have hk' : k = xs.length := by omega
        subst hk'
        rw [List.take_length]
        have hany : (xs.any fun x => decide (x < 0 ∨ 2 < x)) = false := by
          rw [List.any_eq_false]
          intro x hx
          obtain ⟨j, hj, rfl⟩ := List.getElem_of_mem hx
          simpa using hno j hj hj
        refine K_exit ?_
        refine Q_then_exit ?_
        refine Q_then_exit ?_
        refine Q_block_exit ?_
        refine Q_then ?_
        refine K_seq ?_
        refine K_seq ?_
        refine K_region ?_
        refine KV (R_move rfl) rfl ?_
        refine K_nil ?_
        refine Q_then ?_
        refine K_ifB rfl (fun h39 => ?_) (fun h39 => ?_)
        ·
          refine K_seq ?_
          refine K_region ?_
          refine KV (R_assign rfl) rfl ?_
          refine K_nil ?_
          refine Q_then ?_
          refine K_ret ?_
          refine Q_then_ret ?_
          refine results_gen (rs := [.tmp 2]) (vs := [_]) rfl ⟨rfl, trivial⟩ ?_
          have h0 : ¬ (0 : Int) ∈ xs := by
            intro hm
            have := List.all_eq_true.1 h39 0 hm
            simp at this
          simp only [tupV, ranksErr]
          rw [if_neg (by omega), if_neg (by rw [hany]; simp), if_pos h0]
        ·
          refine K_skip ?_
          refine Q_then ?_
          refine K_seq ?_
          refine K_region ?_
          refine KV (R_assign rfl) rfl ?_
          refine K_nil ?_
          refine Q_then ?_
          refine K_ret ?_
          refine results_gen (rs := [.tmp 2]) (vs := [_]) rfl ⟨rfl, trivial⟩ ?_
          have h0 : (0 : Int) ∈ xs := by
            obtain ⟨x, hx, hx2⟩ := List.all_eq_false.1 h39
            obtain ⟨j, hj, e⟩ := List.getElem_of_mem hx
            have := hno j hj hj
            have h3 : ¬ 0 < x := by simpa using hx2
            have : x = 0 := by rw [e] at this; omega
            exact this ▸ hx
          simp only [tupV, ranksErr]
          rw [if_neg (by omega), if_neg (by rw [hany]; simp), if_neg (by simpa using h0)]
end Go.Proofs.X

namespace Go.Proofs.X
open Go Pal Go.Proofs
attribute [local irreducible] Pal.KO Pal.KC Pal.KQ Pal.KD
theorem ty40 : Ty Tryz.prog T40 false 1 := .of (by kernel_rfl)
theorem ty100 : Ty Tryz.prog T100 true 3 := .of (by kernel_rfl)
theorem sl40 : slcOk Tryz.prog T40 T100 := by unfold slcOk; kernel_rfl
theorem fd42_0 : fldOk Tryz.prog T42 0 0 = true := by kernel_rfl
theorem fd42_1 : fldOk Tryz.prog T42 1 1 = true := by kernel_rfl
theorem fd42_2 : fldOk Tryz.prog T42 2 2 = true := by kernel_rfl
theorem fd42_3 : fldOk Tryz.prog T42 3 3 = true := by kernel_rfl
theorem fd100_0 : fldOk Tryz.prog T100 0 0 = true := by kernel_rfl
theorem fd100_1 : fldOk Tryz.prog T100 1 1 = true := by kernel_rfl
theorem fd100_2 : fldOk Tryz.prog T100 2 2 = true := by kernel_rfl
theorem z50 : zeroOk Tryz.prog T50 (.agg #[.slice none 0 0, .int .i64 0, .slice none 0 0, .slice none 0 0]) := .of (by kernel_rfl)
theorem pl50 : placesOk Tryz.prog T50 [(0, 1), (1, 1), (2, 1), (3, 1)] := ⟨_, Tryz.underlying48, by kernel_rfl⟩
theorem pl85 : placesOk Tryz.prog T85 [(0, 1), (1, 1), (2, 1)] := ⟨_, Tryz.underlying85, by kernel_rfl⟩
theorem ap48 : App Tryz.prog T48 T85 3 40 := .of sl48 (by kernel_rfl)
theorem to_spec (a : Au) (vr vu vf : Value) (H : View) (ha : RepAu H a vr vu vf) : Sat Tryz.prog F17 #[.agg #[vr, .int .i64 a.states, vu, vf]] H (fun r H' => ∃ v1 v2 v3, r = .agg #[v1, .int .i64 a.states, v2, v3] ∧ RepAu H' a v1 v2 v3) := by
  obtain ⟨ra, rcp, rfl⟩ := ha.r.shape
  obtain ⟨fa, fcp, rfl⟩ := ha.f.shape
  obtain ⟨ua, ucp, rfl⟩ := ha.ushape
  have hrl := ha.rl
  have hul := ha.ul
  have hfl := ha.fl
  refine enterO (n := 50) (args := [.agg #[.slice ra a.ranks.length rcp, .int .i64 a.states, .slice ua a.rules.length ucp, .slice fa a.final.length fcp]]) Tryz.func13 rfl rfl rfl fun w0 => ?_
  refine K_seq ?_
  refine K_region ?_
  refine KA (A_box rfl) rfl fun b1 => ?_
  refine KA (A_alloc z50) rfl fun b2 => ?_
  refine K_nil ?_
  refine Q_then ?_
  refine K_seq ?_
  refine K_regionD (fin := true) (R := [1, 2, 4, 5, 7, 8, 0, 3, 6, 9, 10, 11, 12]) (by kernel_rfl) mixed (.cons _ (.cons_cons _ (List.nil_sublist _))) ?_
  refine D_val rfl rfl rfl (R_fieldAddr 0 fd42_0 rfl) ?_
  refine D_val rfl rfl rfl (R_loadO ty25 0 rfl rfl rfl rfl (fun _ => rfl) rfl) ?_
  refine D_val rfl rfl rfl (R_fieldAddr 1 fd42_1 rfl) ?_
  refine D_val rfl rfl rfl (R_loadO ty3 0 rfl rfl rfl rfl (fun _ => rfl) rfl) ?_
  refine D_val rfl rfl rfl (R_fieldAddr 3 fd42_3 rfl) ?_
  refine D_val rfl rfl rfl (R_loadO ty25 0 rfl rfl rfl rfl (fun _ => rfl) rfl) ?_
  refine D_alloc rfl rfl rfl (A_buildSlice (vs := []) sl47 ty3 z3 rfl rfl (by simp) (by simp) rfl (by decide)) fun b5 => ?_
  refine D_append0 0 ap47 sl25 rfl rfl rfl rfl rfl ⟨⟨1, rfl⟩, trivial⟩ ha.r.1 (by simp [ints]) (ints_one _) ⟨by omega, by omega⟩ fun a8 k8 => ?_

  refine D_alloc rfl rfl rfl (A_buildSlice (vs := []) sl25 ty3 z3 rfl rfl (by simp) (by simp) rfl (by decide)) fun b11 => ?_
  refine D_append0 0 ap25 sl25 rfl rfl rfl rfl rfl ⟨⟨2, rfl⟩, trivial⟩ ha.f.1 (by simp [ints]) (ints_one _) ⟨by omega, by omega⟩ fun a14 k14 => ?_

  refine D_val rfl rfl rfl (R_build z50 pl50 rfl rfl) ?_
  refine D_alloc rfl rfl rfl (A_alloc z50) fun b3 => ?_
  refine D_lastStore ty50 0 rfl rfl rfl rfl rfl rfl rfl rfl ?_
  refine KQ_front 2 rfl ?_
  refine KQ_pubrow rfl fun V0 hv0 hrow8 => ?_
  refine KQ_front 1 rfl ?_
  refine KQ_pubrow rfl fun V1 hv1 hrow14 => ?_
  refine Q_then ?_
  refine K_seq ?_
  refine K_seq ?_
  refine K_region ?_
  refine KV (R_assign rfl) rfl ?_
  refine K_nil ?_
  refine Q_then ?_
  refine K_block ?_
  refine K_nilrow T85 3 ?_
  refine K_loopD (G := Nat × View × Value × List Value) [4, 16, 17, 18, 19, 20, 21, 22, 23, 24, 25, 26, 27, 28, 29, 30, 31, 32, 33, 34, 35, 36, 37, 38, 39, 40, 41, 42, 43, 44, 45, 46, 47, 48] (fun g => [(4, .int .i64 (g.1 : Int))]) (fun hl g => ((hl.set 0 (row g.2.2.1 T85 3 g.1 g.2.2.2)).set 1 (blk b3 (.cells #[.slice a8 a.ranks.length k8, .int .i64 a.states, g.2.2.1, .slice a14 a.final.length k14] T50 (0, 0))))) (fun g => g.2.1) (fun g => (g.1 ≤ a.rules.length) ∧ (VLe V1 g.2.1) ∧ (RepL (RepR g.2.1) 3 (a.rules.take g.1) g.2.2.2) ∧ (∃ ad cp, g.2.2.1 = .slice ad g.1 cp)) (fun g => a.rules.length - g.1) (0, V1, nilS, []) ⟨Nat.zero_le _, VLe.refl _, .nil, none, 0, rfl⟩ ⟨rfl, trivial⟩ (by simp only [args0, Nat.reduceAdd, del, memN, beqN, Nat.reduceBEq, cond_true, cond_false]; rfl) rfl rfl ?_
  rintro ⟨k, V, w, cells⟩ ⟨hk, hV, hC, hw⟩
  dsimp only at hk hV hC hw
  dsimp only [List.set, List.cons_append, List.nil_append]
  obtain ⟨wa, wcp, rfl⟩ := hw
  refine K_seq ?_
  refine K_seq ?_
  refine K_region ?_
  refine KV (R_move rfl) rfl ?_
  refine KV (R_fieldAddr 2 fd42_2 rfl) rfl ?_
  refine KV (R_loadO ty40 3 rfl rfl rfl rfl (fun _ => rfl) rfl) rfl ?_
  refine KV (R_len sl40 rfl) rfl ?_
  refine KV (R_cmp rfl rfl rfl) rfl ?_
  refine K_nil ?_
  refine Q_then ?_
  refine K_if rfl (fun h20 => ?_) (fun h20 => ?_)
  ·
    have hk' : k < a.rules.length := by omega
    obtain ⟨ub, uo, ucp2, xa, xcp, hue, hrc, hsr, hsym, hto, hxl⟩ := (ha.mono (hv0.trans (hv1.trans hV))).rule hk'
    cases hue
    refine K_skip ?_
    refine Q_then ?_
    refine K_seq ?_
    refine K_block ?_
    refine K_regionD (fin := true) (R := [0, 1, 2, 3, 4, 5, 6, 7, 9, 10, 11, 12, 13, 14, 16, 17, 18, 19, 20, 21, 8, 15, 22, 23, 24, 25, 26]) (by kernel_rfl) mixed (.cons _ (.cons_cons _ (.cons _ (.cons_cons _ (List.nil_sublist _))))) ?_
    refine D_val rfl rfl rfl (R_fieldAddr 2 fd50_2 rfl) ?_
    refine D_val rfl rfl rfl (R_loadO ty48 0 rfl rfl rfl rfl (fun _ => rfl) rfl) ?_
    refine D_val rfl rfl rfl (R_fieldAddr 2 fd42_2 rfl) ?_
    refine D_val rfl rfl rfl (R_loadO ty40 1 rfl rfl rfl rfl (fun _ => rfl) rfl) ?_
    refine D_val rfl rfl rfl (R_move rfl) ?_
    refine D_val rfl rfl rfl (R_indexN sl40 ty100 rfl rfl (by omega)) ?_
    refine D_val rfl rfl rfl (R_fieldAddr 0 fd100_0 rfl) ?_
    refine D_val rfl rfl rfl (R_loadH ty3 rfl (At.one (j := 0) hrc rfl) rfl (fun _ => rfl) rfl) ?_
    refine D_val rfl rfl rfl (R_fieldAddr 2 fd42_2 rfl) ?_
    refine D_val rfl rfl rfl (R_loadO ty40 1 rfl rfl rfl rfl (fun _ => rfl) rfl) ?_
    refine D_val rfl rfl rfl (R_move rfl) ?_
    refine D_val rfl rfl rfl (R_indexN sl40 ty100 rfl rfl (by omega)) ?_
    refine D_val rfl rfl rfl (R_fieldAddr 1 fd100_1 rfl) ?_
    refine D_val rfl rfl rfl (R_loadH ty25 rfl (At.one (j := 1) hrc rfl) rfl (fun _ => rfl) rfl) ?_
    refine D_val rfl rfl rfl (R_fieldAddr 2 fd42_2 rfl) ?_
    refine D_val rfl rfl rfl (R_loadO ty40 1 rfl rfl rfl rfl (fun _ => rfl) rfl) ?_
    refine D_val rfl rfl rfl (R_move rfl) ?_
    refine D_val rfl rfl rfl (R_indexN sl40 ty100 rfl rfl (by omega)) ?_
    refine D_val rfl rfl rfl (R_fieldAddr 2 fd100_2 rfl) ?_
    refine D_val rfl rfl rfl (R_loadH ty3 rfl (At.one (j := 2) hrc rfl) rfl (fun _ => rfl) rfl) ?_
    refine D_alloc rfl rfl rfl (A_buildSlice (vs := []) sl25 ty3 z3 rfl rfl (by simp) (by simp) rfl (by decide)) fun b31 => ?_
    refine D_append0 0 ap25 sl25 rfl rfl rfl rfl rfl ⟨⟨1, rfl⟩, ⟨3, rfl⟩, trivial⟩ hsr.1 (by simp [ints]) (ints_one _) ⟨by omega, by omega⟩ fun a38 k38 => ?_

    refine D_val rfl rfl rfl (R_build z85 pl85 rfl rfl) ?_
    refine D_alloc rfl rfl rfl (A_buildSlice (vs := [.agg #[.int .i64 a.rules[k].sym, .slice a38 a.rules[k].args.length k38, .int .i64 a.rules[k].to]]) sl48 ty85 z85 rfl rfl (by simp [Value.cells]) (by simp) rfl (by decide)) fun b46 => ?_
    refine D_append1 1 ap48 rfl rfl rfl rfl rfl rfl ⟨⟨1, rfl⟩, ⟨3, rfl⟩, trivial⟩ rfl rfl ⟨by omega, by omega⟩ fun a47 k47 hn47 => ?_
    refine D_val rfl rfl rfl (R_fieldAddr 2 fd50_2 rfl) ?_
    refine D_lastStore ty48 2 rfl rfl rfl rfl rfl rfl rfl rfl ?_
    refine KQ_front 1 rfl ?_
    refine KQ_pubrow rfl fun U hU hrow38 => ?_
    refine Q_block ?_
    refine Q_then ?_
    refine K_region ?_
    refine KV (R_move rfl) rfl ?_
    refine KV (R_add rfl rfl (by omega)) rfl ?_
    refine KV (R_assign rfl) rfl ?_
    refine K_nil ?_
    refine Q_nextD (k + 1, U, .slice a47 (k + 1) k47, cells ++ [.int .i64 a.rules[k].sym, .slice a38 a.rules[k].args.length k38, .int .i64 a.rules[k].to]) ⟨hk', hV.trans hU, by rw [List.take_succ_eq_append_getElem hk']; exact (hC.imp fun x cs h => h.mono hU).snoc ⟨_, _, rfl, ⟨hrow38.sl, hsr.2⟩, hsym, hto, hxl⟩ rfl, _, _, rfl⟩ (by (try dsimp only); omega) ⟨rfl, trivial⟩ rfl rfl rfl
  ·
    have hk' : k = a.rules.length := by omega
    subst hk'
    rw [List.take_length] at hC
    refine K_exit ?_
    refine Q_then_exit ?_
    refine Q_then_exit ?_
    refine Q_block_exit ?_
    refine Q_then ?_
    refine K_seq ?_
    refine K_region ?_
    refine KV (R_loadO ty50 1 rfl rfl rfl rfl (fun e => by cases e) rfl) rfl ?_
    refine K_store ty50 2 rfl rfl rfl rfl rfl rfl ?_
    refine K_nil ?_
    refine Q_then ?_
    refine K_ret ?_
    refine KQ_pubrow rfl fun Hp hp hrow => ?_
    refine results_gen (rs := [.cell 2 48]) (vs := [_]) rfl ⟨⟨_, _, _, _, _, _, 1, rfl, rfl, ty50, (fun e => by cases e), rfl, rfl⟩, trivial⟩ ?_
    exact ⟨_, _, _, rfl, ⟨hrow8.sl.mono (hv1.trans (hV.trans hp)), ha.r.2⟩, ⟨cells, hrow.sl, hC.imp fun x cs h => h.mono hp⟩, ⟨hrow14.sl.mono (hV.trans hp), ha.f.2⟩, ha.s, hrl, hul, hfl⟩
end Go.Proofs.X

namespace Go.Proofs.X
open Go Pal Go.Proofs
attribute [local irreducible] Pal.KO Pal.KC Pal.KQ Pal.KD
theorem ty44 : Ty Tryz.prog T44 false 1 := .of (by kernel_rfl)
theorem ty52 : Ty Tryz.prog T52 false 1 := .of (by kernel_rfl)
theorem ty54 : Ty Tryz.prog T54 true 3 := .of (by kernel_rfl)
theorem sl44 : slcOk Tryz.prog T44 T25 := by unfold slcOk; kernel_rfl
theorem sl52 : slcOk Tryz.prog T52 T4 := by unfold slcOk; kernel_rfl
theorem fd54_0 : fldOk Tryz.prog T54 0 0 = true := by kernel_rfl
theorem fd54_1 : fldOk Tryz.prog T54 1 1 = true := by kernel_rfl
theorem fd54_2 : fldOk Tryz.prog T54 2 2 = true := by kernel_rfl
theorem c85 : callable Tryz.prog F85 = true := by kernel_rfl
theorem c87 : callable Tryz.prog F87 = true := by kernel_rfl
theorem c88 : callable Tryz.prog F88 = true := by kernel_rfl
theorem wide_spec (m n : Nat) (hm : m ≤ 2) (hn : n ≤ 512) (H : View) : Sat Tryz.prog F85 #[.int .i64 (m : Int), .int .i64 (n : Int)] H (fun r _ => r = .int .i64 ((n ^ m : Nat) : Int)) := by
  refine enterO (n := 14) (args := [.int .i64 (m : Int), .int .i64 (n : Int)]) Tryz.func49 rfl rfl rfl fun w0 => ?_
  refine K_seq ?_
  refine K_region ?_
  refine KV (R_assign rfl) rfl ?_
  refine K_nil ?_
  refine Q_then ?_
  refine K_seq ?_
  refine K_region ?_
  refine KV (R_assign rfl) rfl ?_
  refine K_nil ?_
  refine Q_then ?_
  refine K_seq ?_
  refine K_seq ?_
  refine K_region ?_
  refine KV (R_move rfl) rfl ?_
  refine KV (R_move rfl) rfl ?_
  refine K_nil ?_
  refine Q_then ?_
  refine K_block ?_
  refine K_loopD (G := Nat) [5, 7, 8, 9, 10, 11, 12] (fun g => [(7, .int .i64 (g : Int)), (5, .int .i64 ((n ^ g : Nat) : Int))]) (fun hl g => hl) (fun g => H) (fun g => (g ≤ m)) (fun g => m - g) 0 (Nat.zero_le _) ⟨rfl, rfl, trivial⟩ (by simp only [args0, Nat.reduceAdd, del, memN, beqN, Nat.reduceBEq, cond_true, cond_false]; rfl) rfl rfl ?_
  rintro k hk
  try dsimp only at hk
  dsimp only [List.set, List.cons_append, List.nil_append]
  refine K_seq ?_
  refine K_region ?_
  refine KV (R_cmp rfl rfl rfl) rfl ?_
  refine K_nil ?_
  refine Q_then ?_
  refine K_seq ?_
  refine K_if rfl (fun h8 => ?_) (fun h8 => ?_)
  ·
    have hk' : k < m := by omega
    have hp : n ^ k * n ≤ 512 * 512 := by
      refine Nat.mul_le_mul ?_ hn
      rcases Nat.eq_zero_or_pos k with e | e
      · subst e; simp
      · have : k = 1 := by omega
        subst this; simpa using hn
    have hp2 : ((n ^ k * n : Nat) : Int) = ((n ^ k : Nat) : Int) * (n : Int) := Int.natCast_mul _ _
    refine K_skip ?_
    refine Q_then ?_
    refine K_seq ?_
    refine K_block ?_
    refine K_region ?_
    refine KV (R_move rfl) rfl ?_
    refine KV (R_move rfl) rfl ?_
    refine KV (R_mul rfl rfl (by omega)) rfl ?_
    refine KV (R_assign rfl) rfl ?_
    refine K_nil ?_
    refine Q_block ?_
    refine Q_then ?_
    refine K_region ?_
    refine KV (R_add rfl rfl (by omega)) rfl ?_
    refine KV (R_move rfl) rfl ?_
    refine K_nil ?_
    refine Q_nextD (k + 1) hk' (by (try dsimp only); omega) ⟨rfl, congrArg (fun z => some (Value.int .i64 z)) (by rw [Nat.pow_succ]; exact (Int.natCast_mul _ _).symm), trivial⟩ rfl rfl rfl
  ·
    have hk' : k = m := by omega
    subst hk'
    refine K_exit ?_
    refine Q_then_exit ?_
    refine Q_then_exit ?_
    refine Q_block_exit ?_
    refine Q_then ?_
    refine K_seq ?_
    refine K_region ?_
    refine KV (R_move rfl) rfl ?_
    refine KV (R_assign rfl) rfl ?_
    refine K_nil ?_
    refine Q_then ?_
    refine K_ret ?_
    refine results_gen (rs := [.tmp 4]) (vs := [_]) rfl ⟨rfl, trivial⟩ ?_
    rfl

theorem dstate_spec (d : Dt) (q : Int) (v1 v2 v3 : Value) (H : View) (hd : RepDt H d v1 v2 v3) : Sat Tryz.prog F88 #[.agg #[v1, v2, v3], .int .i64 q] H (fun r _ => r = .bool (!badQ d.acc.length q)) := by
  obtain ⟨ua1, uc1x, rfl⟩ := hd.r.shape
  obtain ⟨ua2, uc2x, rfl⟩ := hd.a.shape
  obtain ⟨ua3, uc3x, rfl⟩ := hd.t.shape
  refine enterO (n := 14) (args := [.agg #[.slice ua1 d.ranks.length uc1x, .slice ua2 d.acc.length uc2x, .slice ua3 d.to.length uc3x], .int .i64 q]) Tryz.func51 rfl rfl rfl fun w0 => ?_
  refine K_seq ?_
  refine K_region ?_
  refine KA (A_box rfl) rfl fun b2 => ?_
  refine KV (R_assign rfl) rfl ?_
  refine K_nil ?_
  refine Q_then ?_
  refine K_seq ?_
  refine K_region ?_
  refine KV (R_move rfl) rfl ?_
  refine KV (R_cmp rfl rfl rfl) rfl ?_
  refine KV (R_move rfl) rfl ?_
  refine K_split ?_ ?_
  ·
    intro h7
    refine K_gyes rfl rfl ?_
    refine KV (R_move rfl) rfl ?_
    refine K_gyes rfl rfl ?_
    refine KV (R_fieldAddr 1 fd54_1 rfl) rfl ?_
    refine K_gyes rfl rfl ?_
    refine KV (R_loadO ty52 0 rfl rfl rfl rfl (fun _ => rfl) rfl) rfl ?_
    refine K_gyes rfl rfl ?_
    refine KV (R_len sl52 rfl) rfl ?_
    refine K_gyes rfl rfl ?_
    refine KV (R_cmp rfl rfl rfl) rfl ?_
    refine KV (R_pickT rfl rfl) rfl ?_
    refine KV (R_assign rfl) rfl ?_
    refine K_nil ?_
    refine Q_then ?_
    refine K_ret ?_
    refine results_gen (rs := [.tmp 4]) (vs := [_]) rfl ⟨rfl, trivial⟩ ?_
    simp [tupV, badQ, h7]
  ·
    intro h7
    refine K_gno rfl rfl rfl rfl ?_
    refine K_gno rfl rfl rfl rfl ?_
    refine K_gno rfl rfl rfl rfl ?_
    refine K_gno rfl rfl rfl rfl ?_
    refine K_gno rfl rfl rfl rfl ?_
    refine KV (R_pickF rfl rfl) rfl ?_
    refine KV (R_assign rfl) rfl ?_
    refine K_nil ?_
    refine Q_then ?_
    refine K_ret ?_
    refine results_gen (rs := [.tmp 4]) (vs := [_]) rfl ⟨rfl, trivial⟩ ?_
    simp [tupV, badQ, h7]

theorem dbad_spec (d : Dt) (b : Nat) (q : Int) (v1 v2 v3 : Value) (H : View) (hd : RepDt H d v1 v2 v3) (hb : At H b 0 [v1, v2, v3]) : Sat Tryz.prog F87 #[.int .i64 q, ptr b] H (fun r _ => r = .bool (badQ d.acc.length q)) := by
  refine enterO (n := 8) (args := [.int .i64 q, ptr b]) Tryz.func50 rfl rfl rfl fun w0 => ?_
  refine K_seq ?_
  refine K_region ?_
  refine KV (R_assign rfl) rfl ?_
  refine K_nil ?_
  refine Q_then ?_
  refine K_seq ?_
  refine K_region ?_
  refine KV (R_loadH ty54 rfl (hb) rfl (fun e => by cases e) rfl) rfl ?_
  refine KV (R_move rfl) rfl ?_
  refine K_call c88 rfl rfl (dstate_spec d q v1 v2 v3 H hd) ?_
  rintro _ V' hle rfl
  refine KV (R_not rfl) rfl ?_
  refine KV (R_assign rfl) rfl ?_
  refine K_nil ?_
  refine Q_then ?_
  refine K_ret ?_
  refine results_gen (rs := [.tmp 3]) (vs := [_]) rfl ⟨rfl, trivial⟩ ?_
  simp [tupV]

theorem dcheck_spec (d : Dt) (v1 v2 v3 : Value) (H : View) (hd : RepDt H d v1 v2 v3) (hb : d.ranks.length ≤ 1048576 ∧ d.acc.length ≤ 1048576 ∧ d.to.length ≤ 1048576 ∧ ∀ x ∈ d.to, x.length ≤ 1048576) : Sat Tryz.prog F63 #[.agg #[v1, v2, v3]] H (fun r _ => r = .int .i64 (dtErr d)) := by
  obtain ⟨hb1, hb2, hb3, hb4⟩ := hb
  obtain ⟨ua1, uc1x, rfl⟩ := hd.r.shape
  obtain ⟨ua2, uc2x, rfl⟩ := hd.a.shape
  obtain ⟨ua3, uc3x, rfl⟩ := hd.t.shape
  refine enterO (n := 61) (args := [.agg #[.slice ua1 d.ranks.length uc1x, .slice ua2 d.acc.length uc2x, .slice ua3 d.to.length uc3x]]) Tryz.func21 rfl rfl rfl fun w0 => ?_
  refine K_seq ?_
  refine K_region ?_
  refine KA (A_box rfl) rfl fun b1 => ?_
  refine KV (R_assign rfl) rfl ?_
  refine K_nil ?_
  refine KQ_pubblk (by intro x hx; simp [feet] at hx) fun V0 hle0 hb1_ => ?_
  have hA := At.of hb1_
  have hA0 := hA.one (j := 0) rfl
  have hA1 := hA.one (j := 1) rfl
  have hA2 := hA.one (j := 2) rfl
  refine Q_then ?_
  refine K_seq ?_
  refine K_seq ?_
  refine K_region ?_
  refine KV (R_fieldAddr 0 fd54_0 rfl) rfl ?_
  refine KV (R_loadH ty47 rfl (hA0) rfl (fun _ => rfl) rfl) rfl ?_
  refine K_call c72 rfl rfl (acheck_spec d.ranks _ V0 (hd.r.mono hle0) (by omega)) ?_
  rintro _ V1 hle1 rfl
  refine KV (R_assign rfl) rfl ?_
  refine K_nil ?_
  refine Q_then ?_
  refine K_seq ?_
  refine K_region ?_
  refine KV (R_move rfl) rfl ?_
  refine KV (R_cmp rfl rfl rfl) rfl ?_
  refine K_nil ?_
  refine Q_then ?_
  refine K_if rfl (fun h13 => ?_) (fun h13 => ?_)
  ·
    refine K_seq ?_
    refine K_region ?_
    refine KV (R_move rfl) rfl ?_
    refine KV (R_assign rfl) rfl ?_
    refine K_nil ?_
    refine Q_then ?_
    refine K_ret ?_
    refine Q_then_ret ?_
    refine results_gen (rs := [.tmp 2]) (vs := [_]) rfl ⟨rfl, trivial⟩ ?_
    simp only [tupV, dtErr]
    rw [if_pos h13]
  ·
    have hrks := (ranksErr_ok (Decidable.not_not.1 h13)).2
    refine K_skip ?_
    refine Q_then ?_
    refine K_seq ?_
    refine K_region ?_
    refine KV (R_fieldAddr 1 fd54_1 rfl) rfl ?_
    refine KV (R_loadH ty52 rfl (hA1.mono hle1) rfl (fun _ => rfl) rfl) rfl ?_
    refine KV (R_len sl52 rfl) rfl ?_
    refine KV (R_assign rfl) rfl ?_
    refine K_nil ?_
    refine Q_then ?_
    refine K_seq ?_
    refine K_seq ?_
    refine K_region ?_
    refine KV (R_move rfl) rfl ?_
    refine KV (R_cmp rfl rfl rfl) rfl ?_
    refine KV (R_move rfl) rfl ?_
    refine K_split ?_ ?_
    ·
      intro h20
      refine K_gno rfl rfl rfl rfl ?_
      refine K_gno rfl rfl rfl rfl ?_
      refine KV (R_pickT rfl rfl) rfl ?_
      refine K_nil ?_
      refine Q_then ?_
      refine K_ifT rfl ?_
      refine K_seq ?_
      refine K_region ?_
      refine KV (R_assign rfl) rfl ?_
      refine K_nil ?_
      refine Q_then ?_
      refine K_ret ?_
      refine Q_then_ret ?_
      refine results_gen (rs := [.tmp 2]) (vs := [_]) rfl ⟨rfl, trivial⟩ ?_
      simp only [tupV, dtErr]
      rw [if_neg h13, if_pos (by omega)]
    ·
      intro h20
      refine K_gyes rfl rfl ?_
      refine KV (R_move rfl) rfl ?_
      refine K_gyes rfl rfl ?_
      refine KV (R_cmp rfl rfl rfl) rfl ?_
      refine KV (R_pickF rfl rfl) rfl ?_
      refine K_nil ?_
      refine Q_then ?_
      refine K_if rfl (fun h23 => ?_) (fun h23 => ?_)
      ·
        refine K_seq ?_
        refine K_region ?_
        refine KV (R_assign rfl) rfl ?_
        refine K_nil ?_
        refine Q_then ?_
        refine K_ret ?_
        refine Q_then_ret ?_
        refine results_gen (rs := [.tmp 2]) (vs := [_]) rfl ⟨rfl, trivial⟩ ?_
        simp only [tupV, dtErr]
        rw [if_neg h13, if_pos (by omega)]
      ·
        refine K_skip ?_
        refine Q_then ?_
        refine K_seq ?_
        refine K_seq ?_
        refine K_region ?_
        refine KV (R_fieldAddr 2 fd54_2 rfl) rfl ?_
        refine KV (R_loadH ty44 rfl (hA2.mono hle1) rfl (fun _ => rfl) rfl) rfl ?_
        refine KV (R_len sl44 rfl) rfl ?_
        refine KV (R_fieldAddr 0 fd54_0 rfl) rfl ?_
        refine KV (R_loadH ty47 rfl (hA0.mono hle1) rfl (fun _ => rfl) rfl) rfl ?_
        refine KV (R_len sl47 rfl) rfl ?_
        refine KV (R_cmp rfl rfl rfl) rfl ?_
        refine K_nil ?_
        refine Q_then ?_
        refine K_if rfl (fun h30 => ?_) (fun h30 => ?_)
        ·
          refine K_seq ?_
          refine K_region ?_
          refine KV (R_assign rfl) rfl ?_
          refine K_nil ?_
          refine Q_then ?_
          refine K_ret ?_
          refine Q_then_ret ?_
          refine results_gen (rs := [.tmp 2]) (vs := [_]) rfl ⟨rfl, trivial⟩ ?_
          simp only [tupV, dtErr]
          rw [if_neg h13, if_neg (by omega), if_pos h30]
        ·
          refine K_skip ?_
          refine Q_then ?_
          refine K_seq ?_
          refine K_seq ?_
          refine K_region ?_
          refine KV (R_fieldAddr 2 fd54_2 rfl) rfl ?_
          refine KV (R_loadH ty44 rfl (hA2.mono hle1) rfl (fun _ => rfl) rfl) rfl ?_
          refine KV (R_len sl44 rfl) rfl ?_
          refine KV (R_move rfl) rfl ?_
          refine K_nil ?_
          refine Q_then ?_
          refine K_block ?_
          refine K_loopD (G := Nat × View) [2, 5, 6, 34, 35, 36, 37, 38, 39, 40, 41, 42, 43, 44, 45, 46, 47, 48, 49] (fun g => [(34, .int .i64 (g.1 : Int))]) (fun hl g => hl) (fun g => g.2) (fun g => (g.1 ≤ d.to.length) ∧ (VLe V0 g.2) ∧ (∀ j (h : j < d.to.length), j < g.1 → (d.to.getD j []).length = d.acc.length ^ (d.ranks.getD j 0).toNat)) (fun g => d.to.length - g.1) (0, V1) ⟨Nat.zero_le _, hle1, fun j _ h => by simp at h⟩ ⟨rfl, trivial⟩ (by simp only [args0, Nat.reduceAdd, del, memN, beqN, Nat.reduceBEq, cond_true, cond_false]; rfl) rfl rfl ?_
          rintro ⟨s, V⟩ ⟨hs, hV, hwid⟩
          dsimp only at hs hV hwid
          dsimp only [List.set, List.cons_append, List.nil_append]
          refine K_seq ?_
          refine K_region ?_
          refine KV (R_cmp rfl rfl rfl) rfl ?_
          refine K_nil ?_
          refine Q_then ?_
          refine K_seq ?_
          refine K_if rfl (fun h35 => ?_) (fun h35 => ?_)
          ·
            have hs' : s < d.to.length := by omega
            obtain ⟨tb, to_, ea, ecp, hte, hta, hes⟩ := (hd.mono (hle0.trans hV)).t.get hs'
            cases hte
            have hsm : s < d.ranks.length := by omega
            obtain ⟨rb, ro, hre, hrk⟩ := (hd.mono (hle0.trans hV)).r.get hsm
            cases hre
            have hrr := hrks s hsm
            have hgs : d.to.getD s [] = d.to[s] := by simp [List.getD, hs']
            have hgr : d.ranks.getD s 0 = d.ranks[s] := by simp [List.getD, hsm]
            refine K_skip ?_
            refine Q_then ?_
            refine K_seq ?_
            refine K_block ?_
            refine K_seq ?_
            refine K_region ?_
            refine KV (R_move rfl) rfl ?_
            refine KV (R_indexN sl44 ty25 rfl rfl (by omega)) rfl ?_
            refine KV (R_loadH ty25 rfl (hta) rfl (fun _ => rfl) rfl) rfl ?_
            refine KV (R_assign rfl) rfl ?_
            refine KV (R_assign rfl) rfl ?_
            refine K_nil ?_
            refine Q_then ?_
            refine K_seq ?_
            refine K_region ?_
            refine KV (R_move rfl) rfl ?_
            refine KV (R_len sl25 rfl) rfl ?_
            refine KV (R_fieldAddr 0 fd54_0 rfl) rfl ?_
            refine KV (R_loadH ty47 rfl (hA0.mono hV) rfl (fun _ => rfl) rfl) rfl ?_
            refine KV (R_move rfl) rfl ?_
            refine KV (R_indexN sl47 ty3 rfl rfl (by omega)) rfl ?_
            refine KV (R_loadH ty3 rfl (hrk) rfl (fun _ => rfl) rfl) rfl ?_
            refine KV (R_move rfl) rfl ?_
            rw [show d.ranks[s] = ((d.ranks[s].toNat : Nat) : Int) by omega]
            refine K_call c85 rfl rfl (wide_spec d.ranks[s].toNat d.acc.length (by omega) (by omega) V) ?_
            rintro _ V2 hv2 rfl
            refine KV (R_cmp rfl rfl rfl) rfl ?_
            refine K_nil ?_
            refine Q_then ?_
            refine K_if rfl (fun h48 => ?_) (fun h48 => ?_)
            ·
              have hwb : widthBad d = true := by
                unfold widthBad
                rw [List.any_eq_true]
                refine ⟨s, List.mem_range.2 hs', ?_⟩
                simp only [decide_eq_true_eq, hgs, hgr]
                omega
              refine K_seq ?_
              refine K_region ?_
              refine KV (R_assign rfl) rfl ?_
              refine K_nil ?_
              refine Q_then ?_
              refine K_ret ?_
              refine Q_block_ret ?_
              refine Q_then_ret ?_
              refine Q_then_ret ?_
              refine Q_block_ret ?_
              refine Q_then_ret ?_
              refine results_gen (rs := [.tmp 2]) (vs := [_]) rfl ⟨rfl, trivial⟩ ?_
              simp only [tupV, dtErr]
              rw [if_neg h13, if_neg (by omega), if_neg h30, if_pos hwb]
            ·
              have hwid2 : ∀ j (h : j < d.to.length), j < s + 1 → (d.to.getD j []).length = d.acc.length ^ (d.ranks.getD j 0).toNat := by
                intro j h hj
                by_cases e : j = s
                · subst e; rw [hgs, hgr]; omega
                · exact hwid j h (by omega)
              refine K_skip ?_
              refine Q_block ?_
              refine Q_then ?_
              refine K_region ?_
              refine KV (R_add rfl rfl (by omega)) rfl ?_
              refine KV (R_move rfl) rfl ?_
              refine K_nil ?_
              refine Q_nextD (s + 1, V2) ⟨hs', hV.trans hv2, hwid2⟩ (by (try dsimp only); omega) ⟨rfl, trivial⟩ rfl rfl rfl
          ·
            have hwb : widthBad d = false := by
              unfold widthBad
              rw [List.any_eq_false]
              intro s hs
              have hs2 := List.mem_range.1 hs
              have := hwid s hs2 (by omega)
              simpa using this
            refine K_exit ?_
            refine Q_then_exit ?_
            refine Q_then_exit ?_
            refine Q_block_exit ?_
            refine Q_then ?_
            refine K_seq ?_
            refine K_seq ?_
            refine K_region ?_
            refine KV (R_fieldAddr 2 fd54_2 rfl) rfl ?_
            refine KV (R_loadH ty44 rfl (hA2.mono hV) rfl (fun _ => rfl) rfl) rfl ?_
            refine KV (R_len sl44 rfl) rfl ?_
            refine KV (R_move rfl) rfl ?_
            refine K_nil ?_
            refine Q_then ?_
            refine K_block ?_
            refine K_loopD (G := Nat × View) [2, 8, 53, 54, 55, 56, 57, 58, 59, 60] (fun g => [(53, .int .i64 (g.1 : Int))]) (fun hl g => hl) (fun g => g.2) (fun g => (g.1 ≤ d.to.length) ∧ (VLe V0 g.2) ∧ (∀ j (h : j < d.to.length), j < g.1 → d.to[j].any (badQ d.acc.length) = false)) (fun g => d.to.length - g.1) (0, V) ⟨Nat.zero_le _, hV, fun j _ h => by simp at h⟩ ⟨rfl, trivial⟩ (by simp only [args0, Nat.reduceAdd, del, memN, beqN, Nat.reduceBEq, cond_true, cond_false]; rfl) rfl rfl ?_
            rintro ⟨s, V⟩ ⟨hs, hV, hent⟩
            dsimp only at hs hV hent
            dsimp only [List.set, List.cons_append, List.nil_append]
            refine K_seq ?_
            refine K_region ?_
            refine KV (R_cmp rfl rfl rfl) rfl ?_
            refine K_nil ?_
            refine Q_then ?_
            refine K_seq ?_
            refine K_if rfl (fun h54 => ?_) (fun h54 => ?_)
            ·
              have hs' : s < d.to.length := by omega
              obtain ⟨tb, to_, ea, ecp, hte, hta, hes⟩ := (hd.mono (hle0.trans hV)).t.get hs'
              cases hte
              refine K_skip ?_
              refine Q_then ?_
              refine K_seq ?_
              refine K_block ?_
              refine K_seq ?_
              refine K_region ?_
              refine KV (R_indexN sl44 ty25 rfl rfl (by omega)) rfl ?_
              refine KV (R_loadH ty25 rfl (hta) rfl (fun _ => rfl) rfl) rfl ?_
              refine KV (R_assign rfl) rfl ?_
              refine K_nil ?_
              refine Q_then ?_
              refine K_seq ?_
              refine K_region ?_
              refine KV (R_move rfl) rfl ?_
              refine KV (R_makeFunc rfl rfl) rfl ?_
              refine K_call c86 rfl rfl (sicon_spec F87 [ptr b1] (badQ d.acc.length) d.to[s] _ V hes (Nat.le_trans (hb4 _ (List.getElem_mem hs')) (by decide)) c87 (fun x W _ hW => dbad_spec d b1 x _ _ _ W (hd.mono (hle0.trans (hV.trans hW))) (hA.mono (hV.trans hW)))) ?_
              rintro _ V2 hle2 rfl
              refine K_nil ?_
              refine Q_then ?_
              refine K_ifB rfl (fun h59 => ?_) (fun h59 => ?_)
              ·
                have heb : entryBad d = true := List.any_eq_true.2 ⟨_, List.getElem_mem hs', h59⟩
                refine K_seq ?_
                refine K_region ?_
                refine KV (R_assign rfl) rfl ?_
                refine K_nil ?_
                refine Q_then ?_
                refine K_ret ?_
                refine Q_block_ret ?_
                refine Q_then_ret ?_
                refine Q_then_ret ?_
                refine Q_block_ret ?_
                refine Q_then_ret ?_
                refine results_gen (rs := [.tmp 2]) (vs := [_]) rfl ⟨rfl, trivial⟩ ?_
                simp only [tupV, dtErr]
                rw [if_neg h13, if_neg (by omega), if_neg h30, hwb, heb]
                rfl
              ·
                have hent2 : ∀ j (h : j < d.to.length), j < s + 1 → d.to[j].any (badQ d.acc.length) = false := by
                  intro j h hj
                  by_cases e : j = s
                  · subst e; exact h59
                  · exact hent j h (by omega)
                refine K_skip ?_
                refine Q_block ?_
                refine Q_then ?_
                refine K_region ?_
                refine KV (R_add rfl rfl (by omega)) rfl ?_
                refine KV (R_move rfl) rfl ?_
                refine K_nil ?_
                refine Q_nextD (s + 1, V2) ⟨hs', hV.trans hle2, hent2⟩ (by (try dsimp only); omega) ⟨rfl, trivial⟩ rfl rfl rfl
            ·
              have heb : entryBad d = false := by
                unfold entryBad
                rw [List.any_eq_false]
                intro x hx
                obtain ⟨j, hj, rfl⟩ := List.getElem_of_mem hx
                simp [hent j hj (by omega)]
              refine K_exit ?_
              refine Q_then_exit ?_
              refine Q_then_exit ?_
              refine Q_block_exit ?_
              refine Q_then ?_
              refine K_seq ?_
              refine K_region ?_
              refine KV (R_assign rfl) rfl ?_
              refine K_nil ?_
              refine Q_then ?_
              refine K_ret ?_
              refine results_gen (rs := [.tmp 2]) (vs := [_]) rfl ⟨rfl, trivial⟩ ?_
              simp only [tupV, dtErr]
              rw [if_neg h13, if_neg (by omega), if_neg h30, hwb, heb]
              rfl
end Go.Proofs.X

namespace Go.Proofs.X
open Go Pal Go.Proofs
attribute [local irreducible] Pal.KO Pal.KC Pal.KQ Pal.KD
theorem ty28 : Ty Tryz.prog T28 false 1 := .of (by kernel_rfl)
theorem ty30 : Ty Tryz.prog T30 true 2 := .of (by kernel_rfl)
theorem sl28 : slcOk Tryz.prog T28 T30 := by unfold slcOk; kernel_rfl
theorem fd30_1 : fldOk Tryz.prog T30 1 1 = true := by kernel_rfl
theorem z30 : zeroOk Tryz.prog T30 (.agg #[.int .i64 0, .slice none 0 0]) := .of (by kernel_rfl)
theorem c118 : callable Tryz.prog F118 = true := by kernel_rfl
theorem c119 : callable Tryz.prog F119 = true := by kernel_rfl
theorem psize_spec : ∀ m t H cs, t.size ≤ m → m ≤ 1099511627776 → RepT H t cs → Sat Tryz.prog F118 #[.agg cs.toArray] H (fun v _ => v = .int .i64 (t.size : Int)) := by
  intro m
  induction m with
  | zero => intro t H cs h; have := t.size_pos; omega
  | succ m ih =>
  intro t H cs hm hb hr
  cases hr with | mk s ts a cap b off cs' hs ha hA hrec =>
  have hsz : (Tr.node s ts).size = 1 + Tr.sizes ts := rfl
  have hln := Tr.length_le_sizes ts
  have hdl := Tr.deeps_le ts
  refine enterO (n := 19) (args := [.agg #[.int .i64 s, .slice a ts.length cap]]) Tryz.func71 rfl rfl rfl fun w0 => ?_
  refine K_seq ?_
  refine K_region ?_
  refine KA (A_box rfl) rfl fun b1 => ?_
  refine KV (R_assign rfl) rfl ?_
  refine K_nil ?_
  refine Q_then ?_
  refine K_seq ?_
  refine K_region ?_
  refine KV (R_assign rfl) rfl ?_
  refine K_nil ?_
  refine Q_then ?_
  refine K_seq ?_
  refine K_seq ?_
  refine K_region ?_
  refine KV (R_fieldAddr 1 fd30_1 rfl) rfl ?_
  refine KV (R_loadO ty28 0 rfl rfl rfl rfl (fun _ => rfl) rfl) rfl ?_
  refine KV (R_len sl28 rfl) rfl ?_
  refine KV (R_move rfl) rfl ?_
  refine K_nil ?_
  refine Q_then ?_
  refine K_block ?_
  refine K_loopD (G := Nat × View) [3, 5, 9, 10, 11, 12, 13, 14, 15, 16, 17] (fun g => [(9, .int .i64 (g.1 : Int)), (3, .int .i64 (1 + (Tr.sizes (ts.take g.1) : Int)))]) (fun hl g => hl) (fun g => g.2) (fun g => (g.1 ≤ ts.length) ∧ (VLe H g.2)) (fun g => ts.length - g.1) (0, H) ⟨Nat.zero_le _, VLe.refl _⟩ ⟨rfl, rfl, trivial⟩ (by simp only [args0, Nat.reduceAdd, del, memN, beqN, Nat.reduceBEq, cond_true, cond_false]; rfl) rfl rfl ?_
  rintro ⟨k, V⟩ ⟨hk, hV⟩
  dsimp only at hk hV
  dsimp only [List.set, List.cons_append, List.nil_append]
  refine K_seq ?_
  refine K_region ?_
  refine KV (R_cmp rfl rfl rfl) rfl ?_
  refine K_nil ?_
  refine Q_then ?_
  refine K_seq ?_
  refine K_if rfl (fun h10 => ?_) (fun h10 => ?_)
  ·
    have hlt' : k < ts.length := by omega
    have htk := Tr.sizes_take ts k hlt'
    have hle' := Tr.sizes_take_le ts (k + 1)
    have hdk := Tr.deeps_take ts k hlt'
    have hdk2 := Tr.deeps_append (ts.take (k + 1)) (ts.drop (k + 1))
    rw [List.take_append_drop] at hdk2
    have ha' := ha (by intro e; subst e; simp at hlt')
    subst ha'
    obtain ⟨y0, y1, y2, y3, hcs⟩ := (hrec k hlt').shape
    have hreck := (hrec k hlt').mono hV
    rw [hcs] at hreck
    refine K_skip ?_
    refine Q_then ?_
    refine K_seq ?_
    refine K_block ?_
    refine K_seq ?_
    refine K_region ?_
    refine KV (R_indexN sl28 ty30 rfl rfl (by omega)) rfl ?_
    refine KV (R_loadH ty30 rfl (hcs ▸ (hA k hlt').2.mono hV) rfl (fun e => by cases e) rfl) rfl ?_
    refine KA (A_alloc z30) rfl fun b5 => ?_
    refine K_store ty30 0 rfl rfl rfl rfl rfl rfl ?_
    refine K_nil ?_
    refine Q_then ?_
    refine K_region ?_
    refine KV (R_move rfl) rfl ?_
    refine KV (R_loadO ty30 0 rfl rfl rfl rfl (fun e => by cases e) rfl) rfl ?_
    refine K_call c118 rfl rfl (ih ts[k] V _ (by omega) (by omega) hreck) ?_
    rintro _ V1 hle1 rfl
    refine KV (R_add rfl rfl (by omega)) rfl ?_
    refine KV (R_assign rfl) rfl ?_
    refine K_nil ?_
    refine Q_block ?_
    refine Q_then ?_
    refine K_region ?_
    refine KV (R_add rfl rfl (by omega)) rfl ?_
    refine KV (R_move rfl) rfl ?_
    refine K_nil ?_
    refine KQ_sel [1] rfl ?_
    refine Q_nextD (k + 1, V1) ⟨hlt', hV.trans hle1⟩ (by (try dsimp only); omega) ⟨rfl, congrArg (fun z => some (Value.int .i64 z)) (by dsimp only; omega), trivial⟩ rfl rfl rfl
  ·
    have hk' : k = ts.length := by omega
    subst hk'
    rw [List.take_length]
    refine K_exit ?_
    refine Q_then_exit ?_
    refine Q_then_exit ?_
    refine Q_block_exit ?_
    refine Q_then ?_
    refine K_seq ?_
    refine K_region ?_
    refine KV (R_move rfl) rfl ?_
    refine KV (R_assign rfl) rfl ?_
    refine K_nil ?_
    refine Q_then ?_
    refine K_ret ?_
    refine results_gen (rs := [.tmp 2]) (vs := [_]) rfl ⟨rfl, trivial⟩ ?_
    simp [tupV, Tr.size]

theorem pdepth_spec : ∀ m t H cs, t.size ≤ m → m ≤ 1099511627776 → RepT H t cs → Sat Tryz.prog F119 #[.agg cs.toArray] H (fun v _ => v = .int .i64 (t.deep : Int)) := by
  intro m
  induction m with
  | zero => intro t H cs h; have := t.size_pos; omega
  | succ m ih =>
  intro t H cs hm hb hr
  cases hr with | mk s ts a cap b off cs' hs ha hA hrec =>
  have hsz : (Tr.node s ts).size = 1 + Tr.sizes ts := rfl
  have hln := Tr.length_le_sizes ts
  have hdl := Tr.deeps_le ts
  refine enterO (n := 20) (args := [.agg #[.int .i64 s, .slice a ts.length cap]]) Tryz.func102 rfl rfl rfl fun w0 => ?_
  refine K_seq ?_
  refine K_region ?_
  refine KA (A_box rfl) rfl fun b1 => ?_
  refine KV (R_assign rfl) rfl ?_
  refine K_nil ?_
  refine Q_then ?_
  refine K_seq ?_
  refine K_region ?_
  refine KV (R_assign rfl) rfl ?_
  refine K_nil ?_
  refine Q_then ?_
  refine K_seq ?_
  refine K_seq ?_
  refine K_region ?_
  refine KV (R_fieldAddr 1 fd30_1 rfl) rfl ?_
  refine KV (R_loadO ty28 0 rfl rfl rfl rfl (fun _ => rfl) rfl) rfl ?_
  refine KV (R_len sl28 rfl) rfl ?_
  refine KV (R_move rfl) rfl ?_
  refine K_nil ?_
  refine Q_then ?_
  refine K_block ?_
  refine K_loopD (G := Nat × View) [3, 5, 9, 10, 11, 12, 13, 14, 15, 16, 17] (fun g => [(9, .int .i64 (g.1 : Int)), (3, .int .i64 (Tr.deeps (ts.take g.1) : Int))]) (fun hl g => hl) (fun g => g.2) (fun g => (g.1 ≤ ts.length) ∧ (VLe H g.2)) (fun g => ts.length - g.1) (0, H) ⟨Nat.zero_le _, VLe.refl _⟩ ⟨rfl, rfl, trivial⟩ (by simp only [args0, Nat.reduceAdd, del, memN, beqN, Nat.reduceBEq, cond_true, cond_false]; rfl) rfl rfl ?_
  rintro ⟨k, V⟩ ⟨hk, hV⟩
  dsimp only at hk hV
  dsimp only [List.set, List.cons_append, List.nil_append]
  refine K_seq ?_
  refine K_region ?_
  refine KV (R_cmp rfl rfl rfl) rfl ?_
  refine K_nil ?_
  refine Q_then ?_
  refine K_seq ?_
  refine K_if rfl (fun h10 => ?_) (fun h10 => ?_)
  ·
    have hlt' : k < ts.length := by omega
    have htk := Tr.sizes_take ts k hlt'
    have hle' := Tr.sizes_take_le ts (k + 1)
    have hdk := Tr.deeps_take ts k hlt'
    have hdk2 := Tr.deeps_append (ts.take (k + 1)) (ts.drop (k + 1))
    rw [List.take_append_drop] at hdk2
    have ha' := ha (by intro e; subst e; simp at hlt')
    subst ha'
    obtain ⟨y0, y1, y2, y3, hcs⟩ := (hrec k hlt').shape
    have hreck := (hrec k hlt').mono hV
    rw [hcs] at hreck
    refine K_skip ?_
    refine Q_then ?_
    refine K_seq ?_
    refine K_block ?_
    refine K_seq ?_
    refine K_region ?_
    refine KV (R_indexN sl28 ty30 rfl rfl (by omega)) rfl ?_
    refine KV (R_loadH ty30 rfl (hcs ▸ (hA k hlt').2.mono hV) rfl (fun e => by cases e) rfl) rfl ?_
    refine KA (A_alloc z30) rfl fun b5 => ?_
    refine K_store ty30 0 rfl rfl rfl rfl rfl rfl ?_
    refine K_nil ?_
    refine Q_then ?_
    refine K_region ?_
    refine KV (R_move rfl) rfl ?_
    refine KV (R_loadO ty30 0 rfl rfl rfl rfl (fun e => by cases e) rfl) rfl ?_
    refine K_call c119 rfl rfl (ih ts[k] V _ (by omega) (by omega) hreck) ?_
    rintro _ V1 hle1 rfl
    refine KV (R_max2 rfl rfl) rfl ?_
    refine KV (R_assign rfl) rfl ?_
    refine K_nil ?_
    refine Q_block ?_
    refine Q_then ?_
    refine K_region ?_
    refine KV (R_add rfl rfl (by omega)) rfl ?_
    refine KV (R_move rfl) rfl ?_
    refine K_nil ?_
    refine KQ_sel [1] rfl ?_
    refine Q_nextD (k + 1, V1) ⟨hlt', hV.trans hle1⟩ (by (try dsimp only); omega) ⟨rfl, congrArg (fun z => some (Value.int .i64 z)) (by dsimp only; split <;> omega), trivial⟩ rfl rfl rfl
  ·
    have hk' : k = ts.length := by omega
    subst hk'
    rw [List.take_length]
    refine K_exit ?_
    refine Q_then_exit ?_
    refine Q_then_exit ?_
    refine Q_block_exit ?_
    refine Q_then ?_
    refine K_seq ?_
    refine K_region ?_
    refine KV (R_move rfl) rfl ?_
    refine KV (R_add rfl rfl (by omega)) rfl ?_
    refine KV (R_assign rfl) rfl ?_
    refine K_nil ?_
    refine Q_then ?_
    refine K_ret ?_
    refine results_gen (rs := [.tmp 2]) (vs := [_]) rfl ⟨rfl, trivial⟩ ?_
    simp [tupV, Tr.deep]
end Go.Proofs.X

namespace Go.Proofs.X
open Go Pal Go.Proofs
attribute [local irreducible] Pal.KO Pal.KC Pal.KQ Pal.KD

theorem at_spec (d : Dt) (hok : DtOk d) (s : Int) (xs : List Int) (v1 v2 v3 w : Value) (H : View) (hd : RepDt H d v1 v2 v3) (hw : SI H w xs) (hs : 0 ≤ s ∧ s < d.ranks.length) (hl : (xs.length : Int) = d.ranks.getD s.toNat 0) (hx : ∀ x ∈ xs, 0 ≤ x ∧ x < (d.acc.length : Int)) :
    Sat Tryz.prog F91 #[.agg #[v1, v2, v3], .int .i64 s, w] H (fun r _ => r = .int .i64 (atM d s xs)) := by
  obtain ⟨wa, wcp, rfl⟩ := hw.shape
  obtain ⟨g1, g2, g3, g4⟩ := hok.at_ok hs hl hx
  have hn := hok.n
  have hrkb := (ranksErr_ok hok.rk).2 s.toNat (by omega)
  have hxl : xs.length ≤ 2 := by
    have : d.ranks.getD s.toNat 0 = d.ranks[s.toNat] := by simp [List.getD, show s.toNat < d.ranks.length by omega]
    omega
  obtain ⟨ua1, uc1x, rfl⟩ := hd.r.shape
  obtain ⟨ua2, uc2x, rfl⟩ := hd.a.shape
  obtain ⟨ua3, uc3x, rfl⟩ := hd.t.shape
  refine enterO (n := 32) (args := [.agg #[.slice ua1 d.ranks.length uc1x, .slice ua2 d.acc.length uc2x, .slice ua3 d.to.length uc3x], .int .i64 s, .slice wa xs.length wcp]) Tryz.func88 rfl rfl rfl fun w0 => ?_
  refine K_seq ?_
  refine K_region ?_
  refine KA (A_box rfl) rfl fun b3 => ?_
  refine KV (R_assign rfl) rfl ?_
  refine K_nil ?_
  refine Q_then ?_
  refine K_seq ?_
  refine K_region ?_
  refine KV (R_assign rfl) rfl ?_
  refine K_nil ?_
  refine Q_then ?_
  refine K_seq ?_
  refine K_seq ?_
  refine K_region ?_
  refine KV (R_move rfl) rfl ?_
  refine KV (R_len sl25 rfl) rfl ?_
  refine KV (R_move rfl) rfl ?_
  refine K_nil ?_
  refine Q_then ?_
  refine K_block ?_
  refine K_loopD (G := Nat) [7, 9, 12, 13, 14, 15, 16, 17, 18, 19, 20, 21, 22, 23] (fun g => [(12, .int .i64 (g : Int)), (7, .int .i64 (placeM d.acc.length (xs.take g)))]) (fun hl g => hl) (fun g => H) (fun g => (g ≤ xs.length)) (fun g => xs.length - g) 0 (Nat.zero_le _) ⟨rfl, rfl, trivial⟩ (by simp only [args0, Nat.reduceAdd, del, memN, beqN, Nat.reduceBEq, cond_true, cond_false]; rfl) rfl rfl ?_
  rintro k hk
  try dsimp only at hk
  dsimp only [List.set, List.cons_append, List.nil_append]
  refine K_seq ?_
  refine K_region ?_
  refine KV (R_cmp rfl rfl rfl) rfl ?_
  refine K_nil ?_
  refine Q_then ?_
  refine K_seq ?_
  refine K_if rfl (fun h13 => ?_) (fun h13 => ?_)
  ·
    have hk' : k < xs.length := by omega
    obtain ⟨tb, to_, hte, hta⟩ := hw.get hk'
    cases hte
    have hpl := placeM_lt hx k hk
    have hpk : d.acc.length ^ k ≤ 262144 := pow_le2 hn.2 (by omega)
    have hxk := hx _ (List.getElem_mem hk')
    have hm0 : 0 ≤ placeM d.acc.length (xs.take k) * (d.acc.length : Int) := Int.mul_nonneg hpl.1 (by omega)
    have hm1 : placeM d.acc.length (xs.take k) * (d.acc.length : Int) ≤ 262144 * (d.acc.length : Int) := Int.mul_le_mul_of_nonneg_right (by omega) (by omega)
    refine K_skip ?_
    refine Q_then ?_
    refine K_seq ?_
    refine K_block ?_
    refine K_seq ?_
    refine K_region ?_
    refine KV (R_indexN sl25 ty3 rfl rfl (by omega)) rfl ?_
    refine KV (R_loadH ty3 rfl (hta) rfl (fun _ => rfl) rfl) rfl ?_
    refine KV (R_assign rfl) rfl ?_
    refine K_nil ?_
    refine Q_then ?_
    refine K_region ?_
    refine KV (R_move rfl) rfl ?_
    refine KV (R_fieldAddr 1 fd54_1 rfl) rfl ?_
    refine KV (R_loadO ty52 0 rfl rfl rfl rfl (fun _ => rfl) rfl) rfl ?_
    refine KV (R_len sl52 rfl) rfl ?_
    refine KV (R_mul rfl rfl (by omega)) rfl ?_
    refine KV (R_move rfl) rfl ?_
    refine KV (R_add rfl rfl (by omega)) rfl ?_
    refine KV (R_assign rfl) rfl ?_
    refine K_nil ?_
    refine Q_block ?_
    refine Q_then ?_
    refine K_region ?_
    refine KV (R_add rfl rfl (by omega)) rfl ?_
    refine KV (R_move rfl) rfl ?_
    refine K_nil ?_
    refine Q_nextD (k + 1) hk' (by (try dsimp only); omega) ⟨rfl, congrArg (fun z => some (Value.int .i64 z)) (placeM_take hk').symm, trivial⟩ rfl rfl rfl
  ·
    have hk' : k = xs.length := by omega
    subst hk'
    rw [List.take_length]
    obtain ⟨db, do_, ea, ecp, hde, htx, hes⟩ := hd.t.get g1
    cases hde
    have hgs : d.to.getD s.toNat [] = d.to[s.toNat] := by simp [List.getD, g1]
    rw [hgs] at g2
    obtain ⟨eb, eo, hee, hty⟩ := hes.get g2.2
    cases hee
    have hg2 : atM d s xs = d.to[s.toNat][(placeM d.acc.length xs).toNat] := by
      unfold atM
      rw [hgs]
      simp [List.getD, g2.2]
    refine K_exit ?_
    refine Q_then_exit ?_
    refine Q_then_exit ?_
    refine Q_block_exit ?_
    refine Q_then ?_
    refine K_seq ?_
    refine K_region ?_
    refine KV (R_fieldAddr 2 fd54_2 rfl) rfl ?_
    refine KV (R_loadO ty44 0 rfl rfl rfl rfl (fun _ => rfl) rfl) rfl ?_
    refine KV (R_move rfl) rfl ?_
    refine KV (R_index sl44 ty25 rfl rfl ⟨by omega, by omega⟩) rfl ?_
    refine KV (R_loadH ty25 rfl (htx) rfl (fun _ => rfl) rfl) rfl ?_
    refine KV (R_move rfl) rfl ?_
    refine KV (R_index sl25 ty3 rfl rfl ⟨g2.1, by omega⟩) rfl ?_
    refine KV (R_loadH ty3 rfl (hty) rfl (fun _ => rfl) rfl) rfl ?_
    refine KV (R_assign rfl) rfl ?_
    refine K_nil ?_
    refine Q_then ?_
    refine K_ret ?_
    refine results_gen (rs := [.tmp 6]) (vs := [_]) rfl ⟨rfl, trivial⟩ ?_
    rw [hg2]
    rfl
end Go.Proofs.X

namespace Go.Proofs.X
open Go Pal Go.Proofs
attribute [local irreducible] Pal.KO Pal.KC Pal.KQ Pal.KD

theorem clone25o_spec (p : HL) (xs : List Int) (v : Value) (H : View) (hrd : Rd H p v xs.length (ints xs)) (hl : xs.length ≤ 1099511627776) : SatO Tryz.prog F65 #[v] H p (fun w _ q => q = row w T3 1 xs.length (ints xs) :: p) := by
  obtain ⟨a, cp, rfl, hsh⟩ := hrd.sh
  refine enterO (n := 8) (args := [.slice a xs.length cp]) Tryz.func120 rfl rfl rfl fun w0 => ?_
  refine K_seq ?_
  refine K_region ?_
  refine KV (R_assign rfl) rfl ?_
  refine K_nil ?_
  refine Q_then ?_
  refine K_seq ?_
  refine K_seq ?_
  refine K_region ?_
  refine KV (R_move rfl) rfl ?_
  refine KV (R_sliceNil sl25 rfl rfl) rfl ?_
  refine K_nil ?_
  refine Q_then ?_
  cases a with
  | none =>
    have hx0 : xs = [] := by
      rcases hsh with h3 | ⟨b, off, h3⟩
      · exact List.eq_nil_of_length_eq_zero h3
      · cases h3
    subst hx0
    refine K_ifT rfl ?_
    refine K_seq ?_
    refine K_region ?_
    refine KV (R_assign rfl) rfl ?_
    refine K_nil ?_
    refine Q_then ?_
    refine K_ret ?_
    refine Q_then_ret ?_
    refine KQ_nilrow T3 1 ?_
    refine results_gen (rs := [.tmp 2]) (vs := [_]) rfl ⟨rfl, trivial⟩ ?_
    rfl
  | some aa =>
    refine K_ifF rfl ?_
    refine K_skip ?_
    refine Q_then ?_
    refine K_seq ?_
    refine K_region ?_
    refine KA (A_buildSlice (vs := []) sl25 ty3 z3 rfl rfl (by simp) (by simp) rfl (by decide)) rfl fun b5 => ?_
    refine KV (R_move rfl) rfl ?_
    refine K_appendRd0 (p := p) (r := []) ap25 sl25 rfl rfl (by rw [List.append_nil]; exact List.Perm.refl _) hrd (by simp [ints]) (ints_one _) ⟨by omega, by omega⟩ rfl fun a7 k7 => ?_
    refine KV (R_assign rfl) rfl ?_
    refine K_nil ?_
    refine Q_then ?_
    refine K_ret ?_
    refine results_gen (rs := [.tmp 2]) (vs := [_]) rfl ⟨rfl, trivial⟩ ?_
    rw [List.append_nil]; rfl
end Go.Proofs.X

namespace Go.Proofs.X
open Go Pal Go.Proofs
attribute [local irreducible] Pal.KO Pal.KC Pal.KQ Pal.KD
theorem c2068 : callable Tryz.prog F2068 = true := by kernel_rfl
theorem c2071 : callable Tryz.prog F2071 = true := by kernel_rfl
theorem c2089 : callable Tryz.prog F2089 = true := by kernel_rfl
theorem isNaN_spec (x : Int) (H : View) : Sat Tryz.prog F2089 #[.int .i64 x] H (fun r _ => r = .bool false) := by
  refine enterO (n := 6) (args := [.int .i64 x]) Tryz.func119 rfl rfl rfl fun w0 => ?_
  refine K_seq ?_
  refine K_region ?_
  refine KV (R_assign rfl) rfl ?_
  refine K_nil ?_
  refine Q_then ?_
  refine K_seq ?_
  refine K_region ?_
  refine KV (R_move rfl) rfl ?_
  refine KV (R_move rfl) rfl ?_
  refine KV (R_cmp rfl rfl rfl) rfl ?_
  refine KV (R_assign rfl) rfl ?_
  refine K_nil ?_
  refine Q_then ?_
  refine K_ret ?_
  refine results_gen (rs := [.tmp 2]) (vs := [_]) rfl ⟨rfl, trivial⟩ ?_
  simp [tupV]

theorem ccmp_spec (x y : Int) (H : View) : Sat Tryz.prog F2071 #[.int .i64 x, .int .i64 y] H (fun r _ => r = .int .i64 (if x < y then -1 else if y < x then 1 else 0)) := by
  refine enterO (n := 20) (args := [.int .i64 x, .int .i64 y]) Tryz.func100 rfl rfl rfl fun w0 => ?_
  refine K_seq ?_
  refine K_region ?_
  refine KV (R_assign rfl) rfl ?_
  refine K_nil ?_
  refine Q_then ?_
  refine K_seq ?_
  refine K_region ?_
  refine KV (R_move rfl) rfl ?_
  refine K_call c2089 rfl rfl (isNaN_spec x H) ?_
  rintro _ V1 hv1 rfl
  refine KV (R_assign rfl) rfl ?_
  refine K_nil ?_
  refine Q_then ?_
  refine K_seq ?_
  refine K_region ?_
  refine KV (R_move rfl) rfl ?_
  refine K_call c2089 rfl rfl (isNaN_spec y V1) ?_
  rintro _ V2 hv2 rfl
  refine KV (R_assign rfl) rfl ?_
  refine K_nil ?_
  refine Q_then ?_
  refine K_seq ?_
  refine K_seq ?_
  refine K_region ?_
  refine KV (R_move rfl) rfl ?_
  refine K_nil ?_
  refine Q_then ?_
  refine K_ifB rfl (fun h11 => ?_) (fun h11 => ?_)
  ·
    cases h11
  ·
    refine K_skip ?_
    refine Q_then ?_
    refine K_seq ?_
    refine K_seq ?_
    refine K_region ?_
    refine KV (R_move rfl) rfl ?_
    refine K_nil ?_
    refine Q_then ?_
    refine K_ifB rfl (fun h13 => ?_) (fun h13 => ?_)
    ·
      cases h13
    ·
      refine K_skip ?_
      refine Q_then ?_
      refine K_seq ?_
      refine K_seq ?_
      refine K_region ?_
      refine KV (R_move rfl) rfl ?_
      refine KV (R_move rfl) rfl ?_
      refine KV (R_cmp rfl rfl rfl) rfl ?_
      refine K_nil ?_
      refine Q_then ?_
      refine K_if rfl (fun h16 => ?_) (fun h16 => ?_)
      ·
        refine K_seq ?_
        refine K_region ?_
        refine KV (R_assign rfl) rfl ?_
        refine K_nil ?_
        refine Q_then ?_
        refine K_ret ?_
        refine Q_then_ret ?_
        refine results_gen (rs := [.tmp 4]) (vs := [_]) rfl ⟨rfl, trivial⟩ ?_
        rw [if_pos h16]; rfl
      ·
        refine K_skip ?_
        refine Q_then ?_
        refine K_seq ?_
        refine K_seq ?_
        refine K_region ?_
        refine KV (R_move rfl) rfl ?_
        refine KV (R_move rfl) rfl ?_
        refine KV (R_cmp rfl rfl rfl) rfl ?_
        refine K_nil ?_
        refine Q_then ?_
        refine K_if rfl (fun h19 => ?_) (fun h19 => ?_)
        ·
          refine K_seq ?_
          refine K_region ?_
          refine KV (R_assign rfl) rfl ?_
          refine K_nil ?_
          refine Q_then ?_
          refine K_ret ?_
          refine Q_then_ret ?_
          refine results_gen (rs := [.tmp 4]) (vs := [_]) rfl ⟨rfl, trivial⟩ ?_
          rw [if_neg h16, if_pos (by omega)]; rfl
        ·
          refine K_skip ?_
          refine Q_then ?_
          refine K_seq ?_
          refine K_region ?_
          refine KV (R_assign rfl) rfl ?_
          refine K_nil ?_
          refine Q_then ?_
          refine K_ret ?_
          refine results_gen (rs := [.tmp 4]) (vs := [_]) rfl ⟨rfl, trivial⟩ ?_
          rw [if_neg h16, if_neg (by omega)]; rfl

theorem indexI_spec (y : Int) (xs : List Int) (v : Value) (H : View) (hv : SI H v xs) (hl : xs.length ≤ 1099511627776) : Sat Tryz.prog F2068 #[v, .int .i64 y] H (fun r _ => ∃ i : Int, r = .int .i64 i ∧ (0 ≤ i ↔ y ∈ xs)) := by
  obtain ⟨a, cp, rfl⟩ := hv.shape
  refine enterO (n := 19) (args := [.slice a xs.length cp, .int .i64 y]) Tryz.func72 rfl rfl rfl fun w0 => ?_
  refine K_seq ?_
  refine K_region ?_
  refine KV (R_assign rfl) rfl ?_
  refine K_nil ?_
  refine Q_then ?_
  refine K_seq ?_
  refine K_seq ?_
  refine K_region ?_
  refine KV (R_move rfl) rfl ?_
  refine KV (R_len sl25 rfl) rfl ?_
  refine KV (R_move rfl) rfl ?_
  refine K_nil ?_
  refine Q_then ?_
  refine K_block ?_
  refine K_loopD (G := Nat) [4, 5, 8, 9, 10, 11, 12, 13, 14, 15, 16, 17, 18] (fun g => [(8, .int .i64 (g : Int))]) (fun hl g => hl) (fun g => H) (fun g => (g ≤ xs.length) ∧ (∀ j (h : j < xs.length), j < g → xs[j] ≠ y)) (fun g => xs.length - g) 0 ⟨Nat.zero_le _, fun j _ h => by simp at h⟩ ⟨rfl, trivial⟩ (by simp only [args0, Nat.reduceAdd, del, memN, beqN, Nat.reduceBEq, cond_true, cond_false]; rfl) rfl rfl ?_
  rintro k ⟨hk, hno⟩
  try dsimp only at hk
  try dsimp only at hno
  dsimp only [List.set, List.cons_append, List.nil_append]
  refine K_seq ?_
  refine K_region ?_
  refine KV (R_cmp rfl rfl rfl) rfl ?_
  refine K_nil ?_
  refine Q_then ?_
  refine K_seq ?_
  refine K_if rfl (fun h9 => ?_) (fun h9 => ?_)
  ·
    have hk' : k < xs.length := by omega
    obtain ⟨tb, to_, hte, hta⟩ := hv.get hk'
    cases hte
    refine K_skip ?_
    refine Q_then ?_
    refine K_seq ?_
    refine K_block ?_
    refine K_seq ?_
    refine K_region ?_
    refine KV (R_move rfl) rfl ?_
    refine KV (R_assign rfl) rfl ?_
    refine K_nil ?_
    refine Q_then ?_
    refine K_seq ?_
    refine K_region ?_
    refine KV (R_move rfl) rfl ?_
    refine KV (R_move rfl) rfl ?_
    refine KV (R_move rfl) rfl ?_
    refine KV (R_indexN sl25 ty3 rfl rfl (by omega)) rfl ?_
    refine KV (R_loadH ty3 rfl (hta) rfl (fun _ => rfl) rfl) rfl ?_
    refine KV (R_cmp rfl rfl rfl) rfl ?_
    refine K_nil ?_
    refine Q_then ?_
    refine K_if rfl (fun h16 => ?_) (fun h16 => ?_)
    ·
      refine K_seq ?_
      refine K_region ?_
      refine KV (R_move rfl) rfl ?_
      refine KV (R_assign rfl) rfl ?_
      refine K_nil ?_
      refine Q_then ?_
      refine K_ret ?_
      refine Q_block_ret ?_
      refine Q_then_ret ?_
      refine Q_then_ret ?_
      refine Q_block_ret ?_
      refine Q_then_ret ?_
      refine results_gen (rs := [.tmp 4]) (vs := [_]) rfl ⟨rfl, trivial⟩ ?_
      refine ⟨k, rfl, fun _ => ?_, fun _ => by omega⟩
      have e : y = xs[k] := by omega
      rw [e]; exact List.getElem_mem hk'
    ·
      have hno2 : ∀ j (h : j < xs.length), j < k + 1 → xs[j] ≠ y := by
        intro j h hj
        by_cases e : j = k
        · subst e; omega
        · exact hno j h (by omega)
      refine K_skip ?_
      refine Q_block ?_
      refine Q_then ?_
      refine K_region ?_
      refine KV (R_add rfl rfl (by omega)) rfl ?_
      refine KV (R_move rfl) rfl ?_
      refine K_nil ?_
      refine Q_nextD (k + 1) ⟨hk', hno2⟩ (by (try dsimp only); omega) ⟨rfl, trivial⟩ rfl rfl rfl
  ·
    have hk' : k = xs.length := by omega
    refine K_exit ?_
    refine Q_then_exit ?_
    refine Q_then_exit ?_
    refine Q_block_exit ?_
    refine Q_then ?_
    refine K_seq ?_
    refine K_region ?_
    refine KV (R_assign rfl) rfl ?_
    refine K_nil ?_
    refine Q_then ?_
    refine K_ret ?_
    refine results_gen (rs := [.tmp 4]) (vs := [_]) rfl ⟨rfl, trivial⟩ ?_
    refine ⟨-1, rfl, fun h => by omega, fun h => ?_⟩
    obtain ⟨j, hj, e⟩ := List.getElem_of_mem h
    exact absurd e (hno j hj (by omega))

theorem containsI_spec (y : Int) (xs : List Int) (v : Value) (H : View) (hv : SI H v xs) (hl : xs.length ≤ 1099511627776) : Sat Tryz.prog F2041 #[v, .int .i64 y] H (fun r _ => r = .bool (decide (y ∈ xs))) := by
  obtain ⟨a, cp, rfl⟩ := hv.shape
  refine enterO (n := 9) (args := [.slice a xs.length cp, .int .i64 y]) Tryz.func38 rfl rfl rfl fun w0 => ?_
  refine K_seq ?_
  refine K_region ?_
  refine KV (R_assign rfl) rfl ?_
  refine K_nil ?_
  refine Q_then ?_
  refine K_seq ?_
  refine K_region ?_
  refine KV (R_move rfl) rfl ?_
  refine KV (R_move rfl) rfl ?_
  refine K_call c2068 rfl rfl (indexI_spec y xs _ H hv hl) ?_
  rintro _ V1 hv1 ⟨i, rfl, hi⟩
  refine KV (R_cmp rfl rfl rfl) rfl ?_
  refine KV (R_assign rfl) rfl ?_
  refine K_nil ?_
  refine Q_then ?_
  refine K_ret ?_
  refine results_gen (rs := [.tmp 4]) (vs := [_]) rfl ⟨rfl, trivial⟩ ?_
  refine congrArg Value.bool ?_
  by_cases h : 0 ≤ i
  · rw [decide_eq_true h]; exact (decide_eq_true (hi.1 h)).symm
  · rw [decide_eq_false h]; exact (decide_eq_false fun h2 => h (hi.2 h2)).symm

theorem compareI_spec (xs ys : List Int) (v w : Value) (H : View) (hv : SI H v xs) (hw : SI H w ys) (hx : xs.length ≤ 1099511627776) (hy : ys.length ≤ 1099511627776) : Sat Tryz.prog F2044 #[v, w] H (fun r _ => r = .int .i64 (cmpL xs ys)) := by
  obtain ⟨xa, xcp, rfl⟩ := hv.shape
  obtain ⟨ya, ycp, rfl⟩ := hw.shape
  refine enterO (n := 36) (args := [.slice xa xs.length xcp, .slice ya ys.length ycp]) Tryz.func123 rfl rfl rfl fun w0 => ?_
  refine K_seq ?_
  refine K_region ?_
  refine KV (R_assign rfl) rfl ?_
  refine K_nil ?_
  refine Q_then ?_
  refine K_seq ?_
  refine K_seq ?_
  refine K_region ?_
  refine KV (R_move rfl) rfl ?_
  refine KV (R_len sl25 rfl) rfl ?_
  refine KV (R_move rfl) rfl ?_
  refine K_nil ?_
  refine Q_then ?_
  refine K_block ?_
  refine K_loopD (G := Nat × View) [4, 5, 6, 7, 8, 11, 12, 13, 14, 15, 16, 17, 18, 19, 20, 21, 22, 23, 24, 25, 26, 27, 28, 29, 30] (fun g => [(11, .int .i64 (g.1 : Int))]) (fun hl g => hl) (fun g => g.2) (fun g => (g.1 ≤ xs.length) ∧ (g.1 ≤ ys.length) ∧ (VLe H g.2) ∧ (cmpL xs ys = cmpL (xs.drop g.1) (ys.drop g.1))) (fun g => xs.length - g.1) (0, H) ⟨Nat.zero_le _, Nat.zero_le _, VLe.refl _, rfl⟩ ⟨rfl, trivial⟩ (by simp only [args0, Nat.reduceAdd, del, memN, beqN, Nat.reduceBEq, cond_true, cond_false]; rfl) rfl rfl ?_
  rintro ⟨k, V⟩ ⟨hk1, hk2, hV, hc⟩
  dsimp only at hk1 hk2 hV hc
  dsimp only [List.set, List.cons_append, List.nil_append]
  refine K_seq ?_
  refine K_region ?_
  refine KV (R_cmp rfl rfl rfl) rfl ?_
  refine K_nil ?_
  refine Q_then ?_
  refine K_seq ?_
  refine K_if rfl (fun h12 => ?_) (fun h12 => ?_)
  ·
    have hx1 : k < xs.length := by omega
    obtain ⟨xb, xo, hxe, hxa⟩ := (hv.mono hV).get hx1
    cases hxe
    refine K_skip ?_
    refine Q_then ?_
    refine K_seq ?_
    refine K_block ?_
    refine K_seq ?_
    refine K_region ?_
    refine KV (R_move rfl) rfl ?_
    refine KV (R_indexN sl25 ty3 rfl rfl (by omega)) rfl ?_
    refine KV (R_loadH ty3 rfl (hxa) rfl (fun _ => rfl) rfl) rfl ?_
    refine KV (R_assign rfl) rfl ?_
    refine KV (R_assign rfl) rfl ?_
    refine K_nil ?_
    refine Q_then ?_
    refine K_seq ?_
    refine K_seq ?_
    refine K_region ?_
    refine KV (R_move rfl) rfl ?_
    refine KV (R_move rfl) rfl ?_
    refine KV (R_len sl25 rfl) rfl ?_
    refine KV (R_cmp rfl rfl rfl) rfl ?_
    refine K_nil ?_
    refine Q_then ?_
    refine K_if rfl (fun h19 => ?_) (fun h19 => ?_)
    ·
      have hend := cmpL_end hk1 hk2 (.inr (by omega))
      refine K_seq ?_
      refine K_region ?_
      refine KV (R_assign rfl) rfl ?_
      refine K_nil ?_
      refine Q_then ?_
      refine K_ret ?_
      refine Q_then_ret ?_
      refine Q_block_ret ?_
      refine Q_then_ret ?_
      refine Q_then_ret ?_
      refine Q_block_ret ?_
      refine Q_then_ret ?_
      refine results_gen (rs := [.tmp 4]) (vs := [_]) rfl ⟨rfl, trivial⟩ ?_
      rw [hc, hend, if_neg (by omega), if_pos (by omega)]; rfl
    ·
      have hy1 : k < ys.length := by omega
      obtain ⟨yb, yo, hye, hya⟩ := (hw.mono hV).get hy1
      cases hye
      have hcx : cmpL (xs.drop k) (ys.drop k) = if xs[k] < ys[k] then -1 else if ys[k] < xs[k] then 1 else cmpL (xs.drop (k + 1)) (ys.drop (k + 1)) := by
        rw [List.drop_eq_getElem_cons hx1, List.drop_eq_getElem_cons hy1]; rfl
      refine K_skip ?_
      refine Q_then ?_
      refine K_seq ?_
      refine K_region ?_
      refine KV (R_move rfl) rfl ?_
      refine KV (R_move rfl) rfl ?_
      refine KV (R_indexN sl25 ty3 rfl rfl (by omega)) rfl ?_
      refine KV (R_loadH ty3 rfl (hya) rfl (fun _ => rfl) rfl) rfl ?_
      refine KV (R_assign rfl) rfl ?_
      refine K_nil ?_
      refine Q_then ?_
      refine K_seq ?_
      refine K_region ?_
      refine KV (R_move rfl) rfl ?_
      refine KV (R_move rfl) rfl ?_
      refine K_call c2071 rfl rfl (ccmp_spec xs[k] ys[k] V) ?_
      rintro _ V1 hv1 rfl
      refine KV (R_assign rfl) rfl ?_
      refine K_nil ?_
      refine Q_then ?_
      refine K_seq ?_
      refine K_region ?_
      refine KV (R_move rfl) rfl ?_
      refine KV (R_cmp rfl rfl rfl) rfl ?_
      refine K_nil ?_
      refine Q_then ?_
      refine K_if rfl (fun h28 => ?_) (fun h28 => ?_)
      ·
        refine K_seq ?_
        refine K_region ?_
        refine KV (R_move rfl) rfl ?_
        refine KV (R_assign rfl) rfl ?_
        refine K_nil ?_
        refine Q_then ?_
        refine K_ret ?_
        refine Q_block_ret ?_
        refine Q_then_ret ?_
        refine Q_then_ret ?_
        refine Q_block_ret ?_
        refine Q_then_ret ?_
        refine results_gen (rs := [.tmp 4]) (vs := [_]) rfl ⟨rfl, trivial⟩ ?_
        rw [hc, hcx]
        by_cases a1 : xs[k] < ys[k]
        · rw [if_pos a1, if_pos a1]; rfl
        · by_cases a2 : ys[k] < xs[k]
          · rw [if_neg a1, if_neg a1, if_pos a2, if_pos a2]; rfl
          · rw [if_neg a1, if_neg a2] at h28; exact absurd rfl h28
      ·
        have hn1 : ¬ xs[k] < ys[k] := by intro h; rw [if_pos h] at h28; exact h28 (by decide)
        have hn2 : ¬ ys[k] < xs[k] := by intro h; rw [if_neg hn1, if_pos h] at h28; exact h28 (by decide)
        refine K_skip ?_
        refine Q_block ?_
        refine Q_then ?_
        refine K_region ?_
        refine KV (R_add rfl rfl (by omega)) rfl ?_
        refine KV (R_move rfl) rfl ?_
        refine K_nil ?_
        refine Q_nextD (k + 1, V1) ⟨hx1, hy1, hV.trans hv1, by rw [hc, hcx, if_neg hn1, if_neg hn2]⟩ (by (try dsimp only); omega) ⟨rfl, trivial⟩ rfl rfl rfl
  ·
    have hend := cmpL_end hk1 hk2 (.inl (by omega))
    refine K_exit ?_
    refine Q_then_exit ?_
    refine Q_then_exit ?_
    refine Q_block_exit ?_
    refine Q_then ?_
    refine K_seq ?_
    refine K_seq ?_
    refine K_region ?_
    refine KV (R_move rfl) rfl ?_
    refine KV (R_len sl25 rfl) rfl ?_
    refine KV (R_move rfl) rfl ?_
    refine KV (R_len sl25 rfl) rfl ?_
    refine KV (R_cmp rfl rfl rfl) rfl ?_
    refine K_nil ?_
    refine Q_then ?_
    refine K_if rfl (fun h35 => ?_) (fun h35 => ?_)
    ·
      refine K_seq ?_
      refine K_region ?_
      refine KV (R_assign rfl) rfl ?_
      refine K_nil ?_
      refine Q_then ?_
      refine K_ret ?_
      refine Q_then_ret ?_
      refine results_gen (rs := [.tmp 4]) (vs := [_]) rfl ⟨rfl, trivial⟩ ?_
      rw [hc, hend, if_pos (by omega)]; rfl
    ·
      refine K_skip ?_
      refine Q_then ?_
      refine K_seq ?_
      refine K_region ?_
      refine KV (R_assign rfl) rfl ?_
      refine K_nil ?_
      refine Q_then ?_
      refine K_ret ?_
      refine results_gen (rs := [.tmp 4]) (vs := [_]) rfl ⟨rfl, trivial⟩ ?_
      rw [hc, hend, if_neg (by omega), if_neg (by omega)]; rfl
end Go.Proofs.X

namespace Go.Proofs.X
open Go Pal Go.Proofs
attribute [local irreducible] Pal.KO Pal.KC Pal.KQ Pal.KD
theorem ty164 : Ty Tryz.prog T164 false 1 := .of (by kernel_rfl)
theorem ty2007 : Ty Tryz.prog T2007 false 1 := .of (by kernel_rfl)
theorem sl2007 : slcOk Tryz.prog T2007 T164 := by unfold slcOk; kernel_rfl
theorem fd2009_0 : fldOk Tryz.prog T2009 0 0 = true := by kernel_rfl
theorem c2046 : callable Tryz.prog F2046 = true := by kernel_rfl
theorem word_spec (ws : List Nat) (i : Nat) (v : Value) (H : View) (hv : UW H v ws) (hi : i ≤ 1099511627776) : Sat Tryz.prog F2064 #[.agg #[v], .int .i64 (i : Int)] H (fun r _ => r = .int .u64 ((ws.getD i 0 : Nat) : Int)) := by
  obtain ⟨a, cp, rfl⟩ := hv.shape
  have hok := hv.2
  refine enterO (n := 16) (args := [.agg #[.slice a ws.length cp], .int .i64 (i : Int)]) Tryz.func57 rfl rfl rfl fun w0 => ?_
  refine K_seq ?_
  refine K_region ?_
  refine KA (A_box rfl) rfl fun b2 => ?_
  refine KV (R_assign rfl) rfl ?_
  refine K_nil ?_
  refine Q_then ?_
  refine K_seq ?_
  refine K_seq ?_
  refine K_region ?_
  refine KV (R_move rfl) rfl ?_
  refine KV (R_fieldAddr 0 fd2009_0 rfl) rfl ?_
  refine KV (R_loadO ty2007 0 rfl rfl rfl rfl (fun _ => rfl) rfl) rfl ?_
  refine KV (R_len sl2007 rfl) rfl ?_
  refine KV (R_cmp rfl rfl rfl) rfl ?_
  refine K_nil ?_
  refine Q_then ?_
  refine K_if rfl (fun h9 => ?_) (fun h9 => ?_)
  ·
    refine K_seq ?_
    refine K_region ?_
    refine KV (R_assign rfl) rfl ?_
    refine K_nil ?_
    refine Q_then ?_
    refine K_ret ?_
    refine Q_then_ret ?_
    refine results_gen (rs := [.tmp 4]) (vs := [_]) rfl ⟨rfl, trivial⟩ ?_
    simp [tupV, List.getD, show ws.length ≤ i by omega]
  ·
    have hi2 : i < ws.length := by omega
    obtain ⟨b, off, hbe, hba⟩ := hv.get hi2
    cases hbe
    have hw := hok _ (List.getElem_mem hi2)
    refine K_skip ?_
    refine Q_then ?_
    refine K_seq ?_
    refine K_region ?_
    refine KV (R_fieldAddr 0 fd2009_0 rfl) rfl ?_
    refine KV (R_loadO ty2007 0 rfl rfl rfl rfl (fun _ => rfl) rfl) rfl ?_
    refine KV (R_move rfl) rfl ?_
    refine KV (R_indexN sl2007 ty164 rfl rfl (by omega)) rfl ?_
    refine KV (R_loadH ty164 rfl (hba) rfl (fun _ => rfl) rfl) rfl ?_
    refine KV (R_convII (by kernel_rfl) ⟨_, Tryz.underlying102⟩ rfl (IntWalk.u64_in ((ws[i] : Nat) : Int) (by omega))) rfl ?_
    refine KV (R_assign rfl) rfl ?_
    refine K_nil ?_
    refine Q_then ?_
    refine K_ret ?_
    refine results_gen (rs := [.tmp 4]) (vs := [_]) rfl ⟨rfl, trivial⟩ ?_
    simp [tupV, List.getD, hi2]

theorem eqU_spec (xs ys : List Nat) (v w : Value) (H : View) (hv : UW H v xs) (hw : UW H w ys) (hl : xs.length ≤ 1099511627776) : Sat Tryz.prog F2046 #[v, w] H (fun r _ => r = .bool (decide (xs = ys))) := by
  obtain ⟨a, cp, rfl⟩ := hv.shape
  obtain ⟨a2, cp2, rfl⟩ := hw.shape
  refine enterO (n := 26) (args := [.slice a xs.length cp, .slice a2 ys.length cp2]) Tryz.func46 rfl rfl rfl fun w0 => ?_
  refine K_seq ?_
  refine K_region ?_
  refine KV (R_assign rfl) rfl ?_
  refine K_nil ?_
  refine Q_then ?_
  refine K_seq ?_
  refine K_seq ?_
  refine K_region ?_
  refine KV (R_move rfl) rfl ?_
  refine KV (R_len sl2007 rfl) rfl ?_
  refine KV (R_move rfl) rfl ?_
  refine KV (R_len sl2007 rfl) rfl ?_
  refine KV (R_cmp rfl rfl rfl) rfl ?_
  refine K_nil ?_
  refine Q_then ?_
  refine K_if rfl (fun h10 => ?_) (fun h10 => ?_)
  ·
    refine K_seq ?_
    refine K_region ?_
    refine KV (R_assign rfl) rfl ?_
    refine K_nil ?_
    refine Q_then ?_
    refine K_ret ?_
    refine Q_then_ret ?_
    refine results_gen (rs := [.tmp 4]) (vs := [_]) rfl ⟨rfl, trivial⟩ ?_
    refine congrArg Value.bool (Eq.symm (decide_eq_false ?_))
    intro e; subst e; omega
  ·
    have hle : xs.length = ys.length := by omega
    refine K_skip ?_
    refine Q_then ?_
    refine K_seq ?_
    refine K_seq ?_
    refine K_region ?_
    refine KV (R_move rfl) rfl ?_
    refine KV (R_len sl2007 rfl) rfl ?_
    refine KV (R_move rfl) rfl ?_
    refine K_nil ?_
    refine Q_then ?_
    refine K_block ?_
    refine K_loopD (G := Nat) [4, 5, 13, 14, 15, 16, 17, 18, 19, 20, 21, 22, 23, 24, 25] (fun g => [(13, .int .i64 (g : Int))]) (fun hl g => hl) (fun g => H) (fun g => (g ≤ xs.length) ∧ (∀ j (h : j < xs.length) (h2 : j < ys.length), j < g → xs[j] = ys[j])) (fun g => xs.length - g) 0 ⟨Nat.zero_le _, fun j _ _ h => by simp at h⟩ ⟨rfl, trivial⟩ (by simp only [args0, Nat.reduceAdd, del, memN, beqN, Nat.reduceBEq, cond_true, cond_false]; rfl) rfl rfl ?_
    rintro k ⟨hk, hyes⟩
    try dsimp only at hk
    try dsimp only at hyes
    dsimp only [List.set, List.cons_append, List.nil_append]
    refine K_seq ?_
    refine K_region ?_
    refine KV (R_cmp rfl rfl rfl) rfl ?_
    refine K_nil ?_
    refine Q_then ?_
    refine K_seq ?_
    refine K_if rfl (fun h14 => ?_) (fun h14 => ?_)
    ·
      have hk' : k < xs.length := by omega
      obtain ⟨tb, to_, hte, hta⟩ := hv.get hk'
      cases hte
      obtain ⟨ub, uo, hue, htb⟩ := hw.get (show k < ys.length by omega)
      cases hue
      refine K_skip ?_
      refine Q_then ?_
      refine K_seq ?_
      refine K_block ?_
      refine K_seq ?_
      refine K_region ?_
      refine KV (R_move rfl) rfl ?_
      refine KV (R_assign rfl) rfl ?_
      refine K_nil ?_
      refine Q_then ?_
      refine K_seq ?_
      refine K_regionD (fin := false) (R := [0, 1, 2, 3, 4, 5, 6, 7, 8]) (by kernel_rfl) mixed (List.nil_sublist _) ?_
      refine D_val rfl rfl rfl (R_move rfl) ?_
      refine D_val rfl rfl rfl (R_move rfl) ?_
      refine D_val rfl rfl rfl (R_indexN sl2007 ty164 rfl rfl (by omega)) ?_
      refine D_val rfl rfl rfl (R_loadH ty164 rfl (hta) rfl (fun _ => rfl) rfl) ?_
      refine D_val rfl rfl rfl (R_move rfl) ?_
      refine D_val rfl rfl rfl (R_move rfl) ?_
      refine D_val rfl rfl rfl (R_indexN sl2007 ty164 rfl rfl (by omega)) ?_
      refine D_val rfl rfl rfl (R_loadH ty164 rfl (htb) rfl (fun _ => rfl) rfl) ?_
      refine D_val rfl rfl rfl (R_cmp rfl rfl rfl) ?_
      refine D_done ?_
      refine Q_then ?_
      refine K_if rfl (fun h24 => ?_) (fun h24 => ?_)
      ·
        refine K_seq ?_
        refine K_region ?_
        refine KV (R_assign rfl) rfl ?_
        refine K_nil ?_
        refine Q_then ?_
        refine K_ret ?_
        refine Q_block_ret ?_
        refine Q_then_ret ?_
        refine Q_then_ret ?_
        refine Q_block_ret ?_
        refine Q_then_ret ?_
        refine results_gen (rs := [.tmp 4]) (vs := [_]) rfl ⟨rfl, trivial⟩ ?_
        refine congrArg Value.bool (Eq.symm (decide_eq_false ?_))
        intro e; subst e; omega
      ·
        have hyes2 : ∀ j (h : j < xs.length) (h2 : j < ys.length), j < k + 1 → xs[j] = ys[j] := by
          intro j h h2 hj
          by_cases e : j = k
          · subst e; omega
          · exact hyes j h h2 (by omega)
        refine K_skip ?_
        refine Q_block ?_
        refine Q_then ?_
        refine K_region ?_
        refine KV (R_add rfl rfl (by omega)) rfl ?_
        refine KV (R_move rfl) rfl ?_
        refine K_nil ?_
        refine Q_nextD (k + 1) ⟨hk', hyes2⟩ (by (try dsimp only); omega) ⟨rfl, trivial⟩ rfl rfl rfl
    ·
      have hk' : k = xs.length := by omega
      refine K_exit ?_
      refine Q_then_exit ?_
      refine Q_then_exit ?_
      refine Q_block_exit ?_
      refine Q_then ?_
      refine K_seq ?_
      refine K_region ?_
      refine KV (R_assign rfl) rfl ?_
      refine K_nil ?_
      refine Q_then ?_
      refine K_ret ?_
      refine results_gen (rs := [.tmp 4]) (vs := [_]) rfl ⟨rfl, trivial⟩ ?_
      refine congrArg Value.bool (Eq.symm (decide_eq_true ?_))
      exact List.ext_getElem hle fun j h h2 => hyes j h h2 (by omega)

theorem eqN_spec (n m : Nat) (v w : Value) (H : View) (hv : RepN H v n) (hw : RepN H w m) (hl : n < 2 ^ 64) : Sat Tryz.prog F2018 #[.agg #[v], .agg #[w]] H (fun r _ => r = .bool (decide (n = m))) := by
  obtain ⟨xs, hx1, hx2, hx3⟩ := hv
  obtain ⟨ys, hy1, hy2, hy3⟩ := hw
  have hlen : xs.length ≤ 1099511627776 := by
    rcases Nat.lt_or_ge 2 xs.length with h | h
    · exfalso
      have hne : xs ≠ [] := by intro e; subst e; simp at h
      obtain ⟨us, y, rfl⟩ : ∃ us y, xs = us ++ [y] := ⟨xs.dropLast, xs.getLast hne, (List.dropLast_concat_getLast hne).symm⟩
      have hy0 : y ≠ 0 := by intro e; subst e; exact hx1.2 (by simp)
      rw [valW_snoc] at hx2
      have h2 : 4294967296 ^ 2 ≤ 4294967296 ^ us.length := Nat.pow_le_pow_right (by decide) (by simp at h; omega)
      have h3 : 4294967296 ^ us.length * 1 ≤ 4294967296 ^ us.length * y := Nat.mul_le_mul_left _ (by omega)
      omega
    · omega
  obtain ⟨a, cp, rfl⟩ := hx3.shape
  obtain ⟨a2, cp2, rfl⟩ := hy3.shape
  have heq : decide (xs = ys) = decide (n = m) := by
    by_cases e : xs = ys
    · subst e; rw [decide_eq_true rfl, decide_eq_true (by omega)]
    · rw [decide_eq_false e, decide_eq_false (fun h => e (hx1.uniq hy1 (by omega)))]
  refine enterO (n := 10) (args := [.agg #[.slice a xs.length cp], .agg #[.slice a2 ys.length cp2]]) Tryz.func18 rfl rfl rfl fun w0 => ?_
  refine K_seq ?_
  refine K_region ?_
  refine KA (A_box rfl) rfl fun b2 => ?_
  refine KA (A_box rfl) rfl fun b3 => ?_
  refine KV (R_assign rfl) rfl ?_
  refine K_nil ?_
  refine Q_then ?_
  refine K_seq ?_
  refine K_region ?_
  refine KV (R_fieldAddr 0 fd2009_0 rfl) rfl ?_
  refine KV (R_loadO ty2007 1 rfl rfl rfl rfl (fun _ => rfl) rfl) rfl ?_
  refine KV (R_fieldAddr 0 fd2009_0 rfl) rfl ?_
  refine KV (R_loadO ty2007 0 rfl rfl rfl rfl (fun _ => rfl) rfl) rfl ?_
  refine K_call c2046 rfl rfl (eqU_spec xs ys _ _ H hx3 hy3 hlen) ?_
  rintro _ V1 hv1 rfl
  refine KV (R_assign rfl) rfl ?_
  refine K_nil ?_
  refine Q_then ?_
  refine K_ret ?_
  refine results_gen (rs := [.tmp 4]) (vs := [_]) rfl ⟨rfl, trivial⟩ ?_
  exact congrArg Value.bool heq
end Go.Proofs.X

namespace Go.Proofs.X
open Go Pal Go.Proofs
attribute [local irreducible] Pal.KO Pal.KC Pal.KQ Pal.KD
theorem ty2009 : Ty Tryz.prog T2009 true 1 := .of (by kernel_rfl)
theorem z164 : zeroOk Tryz.prog T164 (.int .u32 0) := .of (by kernel_rfl)
theorem z2009 : zeroOk Tryz.prog T2009 (.agg #[.slice none 0 0]) := .of (by kernel_rfl)
theorem pl2009 : placesOk Tryz.prog T2009 [(0, 1)] := ⟨_, Tryz.underlying31, by kernel_rfl⟩
theorem c2047 : callable Tryz.prog F2047 = true := by kernel_rfl
theorem trimW_spec (ws : List Nat) (a : Option Addr) (cp : Nat) (H : View) (hv : UW H (.slice a ws.length cp) ws) (hc : ws.length ≤ cp) (hl : ws.length ≤ 1099511627776) : Sat Tryz.prog F2047 #[.slice a ws.length cp] H (fun r H' => ∃ xa k, r = .agg #[.slice xa k cp] ∧ RepN H' (.slice xa k cp) (valW ws)) := by
  have hok := hv.2
  refine enterO (n := 22) (args := [.slice a ws.length cp]) Tryz.func47 rfl rfl rfl fun w0 => ?_
  refine K_seq ?_
  refine K_region ?_
  refine KA (A_alloc z2009) rfl fun b2 => ?_
  refine K_nil ?_
  refine Q_then ?_
  refine K_seq ?_
  refine K_block ?_
  refine K_loopD (G := Nat × Option Addr) [0, 3, 4, 5, 6, 7, 8, 9, 10, 11, 12, 13, 14, 15, 16, 17, 18, 19] (fun g => [(0, .slice g.2 g.1 cp)]) (fun hl g => hl) (fun g => H) (fun g => (g.1 ≤ ws.length) ∧ (SlAt H (.slice g.2 g.1 cp) g.1 (words (ws.take g.1))) ∧ (∀ j (h : j < ws.length), g.1 ≤ j → ws[j] = 0)) (fun g => g.1) (ws.length, a) ⟨Nat.le_refl _, by rw [List.take_length]; exact hv.1, fun j h h2 => by omega⟩ ⟨rfl, trivial⟩ (by simp only [args0, Nat.reduceAdd, del, memN, beqN, Nat.reduceBEq, cond_true, cond_false]; rfl) rfl rfl ?_
  rintro ⟨k, xa⟩ ⟨hk, hs, hz⟩
  dsimp only at hk hs hz
  dsimp only [List.set, List.cons_append, List.nil_append]
  have htl : (ws.take k).length = k := by rw [List.length_take]; omega
  have hu : UW H (.slice xa k cp) (ws.take k) := ⟨by rw [htl]; exact hs, fun x hx => hok x (List.mem_of_mem_take hx)⟩
  refine K_seq ?_
  refine K_seq ?_
  refine K_region ?_
  refine KV (R_move rfl) rfl ?_
  refine KV (R_len sl2007 rfl) rfl ?_
  refine KV (R_cmp rfl rfl rfl) rfl ?_
  refine KV (R_move rfl) rfl ?_
  refine K_split ?_ ?_
  ·
    intro h6
    have hk0 : k - 1 < (ws.take k).length := by omega
    obtain ⟨tb, to_, hte, hta⟩ := hu.get hk0
    cases hte
    have e9 : ((k : Int) - 1).toNat = k - 1 := by omega
    have hta2 : At H tb (to_ + ((k : Int) - 1).toNat * 1) [.int .u32 (((ws.take k)[k - 1] : Nat) : Int)] := by rw [e9]; exact hta
    refine K_gyes rfl rfl ?_
    refine KV (R_move rfl) rfl ?_
    refine K_gyes rfl rfl ?_
    refine KV (R_move rfl) rfl ?_
    refine K_gyes rfl rfl ?_
    refine KV (R_len sl2007 rfl) rfl ?_
    refine K_gyes rfl rfl ?_
    refine KV (R_sub rfl rfl (by omega)) rfl ?_
    refine K_gyes rfl rfl ?_
    refine KV (R_index sl2007 ty164 rfl rfl ⟨by omega, by omega⟩) rfl ?_
    refine K_gyes rfl rfl ?_
    refine KV (R_loadH ty164 rfl (hta2) rfl (fun _ => rfl) rfl) rfl ?_
    refine K_gyes rfl rfl ?_
    refine KV (R_cmp rfl rfl rfl) rfl ?_
    refine KV (R_pickT rfl rfl) rfl ?_
    refine K_nil ?_
    refine Q_then ?_
    refine K_if rfl (fun h14 => ?_) (fun h14 => ?_)
    ·
      have hz0 : ws[k - 1]'(by omega) = 0 := by rw [List.getElem_take] at h14; omega
      have hwt : (words (ws.take k)).take (k - 1) = words (ws.take (k - 1)) := by
        unfold words
        rw [← List.map_take, List.take_take, Nat.min_eq_left (by omega)]
      refine K_skip ?_
      refine Q_then ?_
      refine K_block ?_
      refine K_region ?_
      refine KV (R_move rfl) rfl ?_
      refine KV (R_move rfl) rfl ?_
      refine KV (R_len sl2007 rfl) rfl ?_
      refine KV (R_sub rfl rfl (by omega)) rfl ?_
      rw [show (k : Int) - 1 = ((k - 1 : Nat) : Int) by omega]
      refine KV (R_sliceHi (m := k - 1) sl2007 ty164 rfl rfl (by omega)) rfl ?_
      refine KV (R_assign rfl) rfl ?_
      refine K_nil ?_
      refine Q_block ?_
      refine Q_nextD (k - 1, (if cp = 0 then some ⟨tb, to_, none⟩ else (some (⟨tb, to_, none⟩ : Addr)).map (·.add 0))) ⟨by dsimp only; omega, by have h3 := hs.hi (m := k - 1) (sz := 1) (by omega) (by omega); rw [Nat.mul_one, hwt] at h3; exact h3, fun j h h2 => by
          dsimp only at h2
          by_cases e : j = k - 1
          · subst e; exact hz0
          · exact hz j h (by omega)⟩ (by (try dsimp only); omega) ⟨rfl, trivial⟩ rfl rfl rfl
    ·
      refine K_exit ?_
      refine Q_then_exit ?_
      refine Q_then_exit ?_
      refine Q_block_exit ?_
      refine Q_then ?_
      refine K_seq ?_
      refine K_region ?_
      refine KV (R_move rfl) rfl ?_
      refine KV (R_build z2009 pl2009 rfl rfl) rfl ?_
      refine K_store ty2009 0 rfl rfl rfl rfl rfl rfl ?_
      refine K_nil ?_
      refine Q_then ?_
      refine K_ret ?_
      refine results_gen (rs := [.cell 2 31]) (vs := [_]) rfl ⟨⟨_, _, _, _, _, _, 0, rfl, rfl, ty2009, (fun e => by cases e), rfl, rfl⟩, trivial⟩ ?_
      refine ⟨_, _, rfl, ws.take k, ?_, valW_take hz, ?_⟩
      · refine Canon.take hok hk ?_
        by_cases h0 : k = 0
        · exact .inl h0
        · first
          | (exfalso; omega)
          | (refine .inr ⟨by omega, ?_⟩; intro e; rw [List.getElem_take] at h14; omega)
      · exact hu
  ·
    intro h6
    refine K_gno rfl rfl rfl rfl ?_
    refine K_gno rfl rfl rfl rfl ?_
    refine K_gno rfl rfl rfl rfl ?_
    refine K_gno rfl rfl rfl rfl ?_
    refine K_gno rfl rfl rfl rfl ?_
    refine K_gno rfl rfl rfl rfl ?_
    refine K_gno rfl rfl rfl rfl ?_
    refine KV (R_pickF rfl rfl) rfl ?_
    refine K_nil ?_
    refine Q_then ?_
    refine K_ifF rfl ?_
    refine K_exit ?_
    refine Q_then_exit ?_
    refine Q_then_exit ?_
    refine Q_block_exit ?_
    refine Q_then ?_
    refine K_seq ?_
    refine K_region ?_
    refine KV (R_move rfl) rfl ?_
    refine KV (R_build z2009 pl2009 rfl rfl) rfl ?_
    refine K_store ty2009 0 rfl rfl rfl rfl rfl rfl ?_
    refine K_nil ?_
    refine Q_then ?_
    refine K_ret ?_
    refine results_gen (rs := [.cell 2 31]) (vs := [_]) rfl ⟨⟨_, _, _, _, _, _, 0, rfl, rfl, ty2009, (fun e => by cases e), rfl, rfl⟩, trivial⟩ ?_
    refine ⟨_, _, rfl, ws.take k, ?_, valW_take hz, ?_⟩
    · refine Canon.take hok hk ?_
      by_cases h0 : k = 0
      · exact .inl h0
      · first
        | (exfalso; omega)
        | (refine .inr ⟨by omega, ?_⟩; intro e; rw [List.getElem_take] at h14; omega)
    · exact hu

theorem fromU_spec (n : Nat) (hn : n < 18446744073709551616) (H : View) : Sat Tryz.prog F2019 #[.int .u64 (n : Int)] H (fun r H' => ∃ xa k cp, r = .agg #[.slice xa k cp] ∧ RepN H' (.slice xa k cp) n) := by
  have hw1 : IntKind.u32.wrap (n : Int) = ((n % 4294967296 : Nat) : Int) := by rw [IntKind.wrap_u32]; omega
  have hw2 : IntKind.u32.wrap ((n / 2 ^ 32 : Nat) : Int) = ((n / 4294967296 : Nat) : Int) := by rw [IntKind.wrap_u32]; omega
  refine enterO (n := 10) (args := [.int .u64 (n : Int)]) Tryz.func19 rfl rfl rfl fun w0 => ?_
  refine K_seq ?_
  refine K_region ?_
  refine KA (A_alloc z2009) rfl fun b2 => ?_
  refine K_nil ?_
  refine Q_then ?_
  refine K_seq ?_
  refine K_region ?_
  refine KV (R_move rfl) rfl ?_
  refine KV (R_convII (by kernel_rfl) ⟨_, Tryz.underlying66⟩ rfl hw1) rfl ?_
  refine KV (R_move rfl) rfl ?_
  refine KV (R_shrU (k := 32) rfl rfl (by decide)) rfl ?_
  refine KV (R_convII (by kernel_rfl) ⟨_, Tryz.underlying66⟩ rfl hw2) rfl ?_
  refine KA (A_buildSlice (vs := [.int .u32 ((n % 4294967296 : Nat) : Int), .int .u32 ((n / 4294967296 : Nat) : Int)]) sl2007 ty164 z164 rfl rfl (by simp [Value.cells]) (by simp) rfl (by decide)) rfl fun b8 => ?_
  refine KO_pubF fun U hU hb8 => ?_
  have hu : UW U (slc 2 b8) [n % 4294967296, n / 4294967296] := ⟨⟨_, _, rfl, .inr ⟨b8, 0, rfl, At.of hb8⟩⟩, fun w hw => by simp at hw; omega⟩
  have hval : valW [n % 4294967296, n / 4294967296] = n := by simp only [valW]; omega
  refine K_call c2047 rfl rfl (trimW_spec [n % 4294967296, n / 4294967296] _ 2 U hu (by simp) (by simp)) ?_
  rintro _ V1 hv1 ⟨xa, k, rfl, hN⟩
  rw [hval] at hN
  refine K_store ty2009 0 rfl rfl rfl rfl rfl rfl ?_
  refine K_nil ?_
  refine Q_then ?_
  refine K_ret ?_
  refine results_gen (rs := [.cell 2 31]) (vs := [_]) rfl ⟨⟨_, _, _, _, _, _, 0, rfl, rfl, ty2009, (fun e => by cases e), rfl, rfl⟩, trivial⟩ ?_
  exact ⟨_, _, _, rfl, hN⟩
end Go.Proofs.X

namespace Go.Proofs.X
open Go Pal Go.Proofs
attribute [local irreducible] Pal.KO Pal.KC Pal.KQ Pal.KD
theorem c2064 : callable Tryz.prog F2064 = true := by kernel_rfl
theorem addcw_spec (xs ys : List Nat) (i c b2 b3 : Nat) (v w : Value) (H : View) (hv : UW H v xs) (hw : UW H w ys) (hA2 : At H b2 0 [v]) (hA3 : At H b3 0 [w]) (hi : i ≤ 1099511627776) (hc : c ≤ 1) :
    Sat Tryz.prog F2063 #[.int .i64 (i : Int), .int .u64 (c : Int), ptr b2, ptr b3] H (fun r _ => r = .tuple #[.int .u32 (((xs.getD i 0 + ys.getD i 0 + c) % 4294967296 : Nat) : Int), .int .u64 (((xs.getD i 0 + ys.getD i 0 + c) / 2 ^ 32 : Nat) : Int)]) := by
  obtain ⟨a, cp, rfl⟩ := hv.shape
  obtain ⟨a2, cp2, rfl⟩ := hw.shape
  have hx : xs.getD i 0 < 4294967296 := by
    by_cases h : i < xs.length
    · have := hv.2 _ (List.getElem_mem h); simpa [List.getD, h] using this
    · simp [List.getD, h]
  have hy : ys.getD i 0 < 4294967296 := by
    by_cases h : i < ys.length
    · have := hw.2 _ (List.getElem_mem h); simpa [List.getD, h] using this
    · simp [List.getD, h]
  generalize hx0 : xs.getD i 0 = x at hx ⊢
  generalize hy0 : ys.getD i 0 = y at hy ⊢
  refine enterO (n := 22) (args := [.int .i64 (i : Int), .int .u64 (c : Int), ptr b2, ptr b3]) Tryz.func56 rfl rfl rfl fun w0 => ?_
  refine K_seq ?_
  refine K_region ?_
  refine KV (R_assign rfl) rfl ?_
  refine KV (R_assign rfl) rfl ?_
  refine K_nil ?_
  refine Q_then ?_
  refine K_seq ?_
  refine K_regionD (fin := false) (R := [0, 1, 3, 4, 7, 2, 5, 6, 8, 9]) (by kernel_rfl) mixed (List.nil_sublist _) ?_
  refine D_val rfl rfl rfl (R_loadH ty2009 rfl (hA2) rfl (fun e => by cases e) rfl) ?_
  refine D_val rfl rfl rfl (R_move rfl) ?_
  refine D_val rfl rfl rfl (R_loadH ty2009 rfl (hA3) rfl (fun e => by cases e) rfl) ?_
  refine D_val rfl rfl rfl (R_move rfl) ?_
  refine D_val rfl rfl rfl (R_move rfl) ?_
  refine D_call rfl rfl c2064 rfl trivial (word_spec xs i _ H hv hi) ?_
  rintro _ V1 hv1 rfl
  rw [hx0]
  refine D_call rfl rfl c2064 rfl trivial (word_spec ys i _ V1 (hw.mono hv1) hi) ?_
  rintro _ V2 hv2 rfl
  rw [hy0]
  refine D_val rfl rfl rfl (R_arith (r := ((x + y : Nat) : Int)) rfl rfl (.inl ⟨rfl, by rw [IntWalk.u64_in _ (by omega)]; omega⟩)) ?_
  refine D_val rfl rfl rfl (R_arith (r := ((x + y + c : Nat) : Int)) rfl rfl (.inl ⟨rfl, by rw [IntWalk.u64_in _ (by omega)]; omega⟩)) ?_
  refine D_val rfl rfl rfl (R_assign rfl) ?_
  refine D_done ?_
  refine Q_then ?_
  refine K_seq ?_
  refine K_region ?_
  refine KV (R_move rfl) rfl ?_
  refine KV (R_convII (by kernel_rfl) ⟨_, Tryz.underlying66⟩ rfl (r := (((x + y + c) % 4294967296 : Nat) : Int)) (by rw [IntKind.wrap_u32]; omega)) rfl ?_
  refine KV (R_move rfl) rfl ?_
  refine KV (R_shrU (k := 32) rfl rfl (by decide)) rfl ?_
  refine KV (R_assign rfl) rfl ?_
  refine KV (R_assign rfl) rfl ?_
  refine K_nil ?_
  refine Q_then ?_
  refine K_ret ?_
  refine results_gen (rs := [.tmp 6, .tmp 7]) (vs := [_, _]) rfl ⟨rfl, ⟨rfl, trivial⟩⟩ ?_
  rfl
end Go.Proofs.X

namespace Go.Proofs.X
open Go Pal Go.Proofs
attribute [local irreducible] Pal.KO Pal.KC Pal.KQ Pal.KD
theorem ap2007 : App Tryz.prog T2007 T164 1 4 := .of sl2007 (by kernel_rfl)
theorem join_spec (n m gf : Nat) (cap0 : List Value) (f : Nat → Nat → Nat × Nat) (H : View) (hn : n ≤ 1073741824) (hm : m < 4294967296) (hf : ∀ i c, c ≤ m → (f i c).1 < 4294967296 ∧ (f i c).2 ≤ m) (hct : callable Tryz.prog gf = true)
    (hdo : ∀ H' (i c : Nat), VLe H H' → i < n → c ≤ m → Sat Tryz.prog gf ([] ++ [Value.int .i64 (i : Int), .int .u64 (c : Int)] ++ cap0).toArray H' (fun r _ => r = .tuple #[.int .u32 ((f i c).1 : Int), .int .u64 ((f i c).2 : Int)])) :
    SatO Tryz.prog F2062 #[.int .i64 (n : Int), .func (.func gf) #[] cap0.toArray] H [] (fun r _ q => ∃ xa cap, r = .slice xa (joinW f n).length cap ∧ q = [row (.slice xa (joinW f n).length cap) T164 1 (joinW f n).length (words (joinW f n))]) := by
  refine enterO (n := 36) (args := [.int .i64 (n : Int), .func (.func gf) #[] cap0.toArray]) Tryz.func55 rfl rfl rfl fun w0 => ?_
  refine K_seq ?_
  refine K_region ?_
  refine KV (R_assign rfl) rfl ?_
  refine K_nil ?_
  refine Q_then ?_
  refine K_seq ?_
  refine K_region ?_
  refine KV (R_move rfl) rfl ?_
  refine KV (R_add rfl rfl (by omega)) rfl ?_
  refine KA (A_makeSlice0 (k := n + 1) ap2007 z164 ty164 rfl rfl (by omega) (by omega)) rfl fun b11 => ?_
  refine KV (R_assign rfl) rfl ?_
  refine K_nil ?_
  refine KQ_rowMade (cap := n + 1) (sz := 1) (by simp [madeCells]) (by simp only [maxLen]; omega) ?_
  refine Q_then ?_
  refine K_seq ?_
  refine K_region ?_
  refine KV (R_assign rfl) rfl ?_
  refine K_nil ?_
  refine Q_then ?_
  refine K_seq ?_
  refine K_seq ?_
  refine K_region ?_
  refine KV (R_move rfl) rfl ?_
  refine KV (R_move rfl) rfl ?_
  refine K_nil ?_
  refine Q_then ?_
  refine K_block ?_
  refine K_loopD (G := Nat × View × Option Addr × Nat) [5, 6, 7, 8, 13, 14, 15, 16, 17, 18, 19, 20, 21, 22, 23, 24, 25, 26, 27] (fun g => [(13, .int .i64 (g.1 : Int)), (6, .int .u64 ((joinF f g.1).2 : Int)), (5, .slice g.2.2.1 g.1 g.2.2.2)]) (fun hl g => (hl.set 0 (row (.slice g.2.2.1 g.1 g.2.2.2) T164 1 g.1 (words (joinF f g.1).1)))) (fun g => g.2.1) (fun g => (g.1 ≤ n) ∧ (VLe H g.2.1)) (fun g => n - g.1) (0, H, some ⟨b11, 0, none⟩, n + 1) ⟨Nat.zero_le _, VLe.refl _⟩ ⟨rfl, rfl, rfl, trivial⟩ (by simp only [args0, Nat.reduceAdd, del, memN, beqN, Nat.reduceBEq, cond_true, cond_false]; rfl) rfl rfl ?_
  rintro ⟨i, V, xa, cp⟩ ⟨hi, hV⟩
  dsimp only at hi hV
  dsimp only [List.set, List.cons_append, List.nil_append]
  obtain ⟨hjo, hjm⟩ := joinF_ok hf i
  have hjl := joinF_len f i
  refine K_seq ?_
  refine K_region ?_
  refine KV (R_cmp rfl rfl rfl) rfl ?_
  refine K_nil ?_
  refine Q_then ?_
  refine K_seq ?_
  refine K_if rfl (fun h14 => ?_) (fun h14 => ?_)
  ·
    have hi2 : i < n := by omega
    refine K_skip ?_
    refine Q_then ?_
    refine K_seq ?_
    refine K_block ?_
    refine K_seq ?_
    refine K_region ?_
    refine KV (R_move rfl) rfl ?_
    refine KV (R_assign rfl) rfl ?_
    refine K_nil ?_
    refine Q_then ?_
    refine K_seq ?_
    refine K_region ?_
    refine KV (R_assign rfl) rfl ?_
    refine K_nil ?_
    refine Q_then ?_
    refine K_seq ?_
    refine K_region ?_
    refine KV (R_move rfl) rfl ?_
    refine KV (R_move rfl) rfl ?_
    refine KV (R_move rfl) rfl ?_
    refine K_callV hct rfl rfl rfl (hdo V i (joinF f i).2 hV hi2 hjm) ?_
    rintro _ V1 hv1 rfl
    refine KV (R_move rfl) rfl ?_
    refine KV (R_extract rfl rfl) rfl ?_
    refine KV (R_extract rfl rfl) rfl ?_
    refine KV (R_assign rfl) rfl ?_
    refine KV (R_assign rfl) rfl ?_
    refine K_nil ?_
    refine Q_then ?_
    refine K_region ?_
    refine KV (R_move rfl) rfl ?_
    refine KV (R_move rfl) rfl ?_
    refine KA (A_buildSlice (vs := [.int .u32 ((f i (joinF f i).2).1 : Int)]) sl2007 ty164 z164 rfl rfl (by simp [Value.cells]) (by simp) rfl (by decide)) rfl fun b25 => ?_
    refine K_append1 0 ap2007 rfl rfl rfl rfl rfl rfl ⟨by omega, by omega⟩ rfl fun a26 k26 hn26 => ?_
    refine KV (R_assign rfl) rfl ?_
    refine K_nil ?_
    refine Q_block ?_
    refine Q_then ?_
    refine K_region ?_
    refine KV (R_add rfl rfl (by omega)) rfl ?_
    refine KV (R_move rfl) rfl ?_
    refine K_nil ?_
    refine Q_nextD (i + 1, V1, a26, k26) ⟨hi2, hV.trans hv1⟩ (by (try dsimp only); omega) ⟨rfl, rfl, rfl, trivial⟩ rfl (by dsimp only [joinF]; rw [words_snoc]; rfl) rfl
  ·
    have hi2 : i = n := by omega
    rw [hi2] at hjl hjm hjo ⊢
    refine K_exit ?_
    refine Q_then_exit ?_
    refine Q_then_exit ?_
    refine Q_block_exit ?_
    refine Q_then ?_
    refine K_seq ?_
    refine K_seq ?_
    refine K_region ?_
    refine KV (R_move rfl) rfl ?_
    refine KV (R_cmp rfl rfl rfl) rfl ?_
    refine K_nil ?_
    refine Q_then ?_
    refine K_if rfl (fun h29 => ?_) (fun h29 => ?_)
    ·
      refine K_region ?_
      refine KV (R_move rfl) rfl ?_
      refine KV (R_move rfl) rfl ?_
      refine KV (R_convII (by kernel_rfl) ⟨_, Tryz.underlying66⟩ rfl (r := (((joinF f n).2 : Nat) : Int)) (by rw [IntKind.wrap_u32]; omega)) rfl ?_
      refine KA (A_buildSlice (vs := [.int .u32 ((joinF f n).2 : Int)]) sl2007 ty164 z164 rfl rfl (by simp [Value.cells]) (by simp) rfl (by decide)) rfl fun b33 => ?_
      refine K_append1 0 ap2007 rfl rfl rfl rfl rfl rfl ⟨by omega, by omega⟩ rfl fun a34 k34 hn34 => ?_
      refine KV (R_assign rfl) rfl ?_
      refine K_nil ?_
      refine Q_then ?_
      refine K_seq ?_
      refine K_region ?_
      refine KV (R_move rfl) rfl ?_
      refine KV (R_assign rfl) rfl ?_
      refine K_nil ?_
      refine Q_then ?_
      refine K_ret ?_
      refine results_sel [0] rfl (rs := [.tmp 4]) (vs := [_]) rfl ⟨rfl, trivial⟩ ?_
      have e : joinW f n = (joinF f n).1 ++ [(joinF f n).2] := by unfold joinW; rw [if_pos (by omega)]
      have el : (joinW f n).length = n + 1 := by rw [e, List.length_append, hjl]; rfl
      rw [el, e, words_snoc]
      exact ⟨_, _, rfl, rfl⟩
    ·
      refine K_skip ?_
      refine Q_then ?_
      refine K_seq ?_
      refine K_region ?_
      refine KV (R_move rfl) rfl ?_
      refine KV (R_assign rfl) rfl ?_
      refine K_nil ?_
      refine Q_then ?_
      refine K_ret ?_
      refine results_sel [0] rfl (rs := [.tmp 4]) (vs := [_]) rfl ⟨rfl, trivial⟩ ?_
      have e : joinW f n = (joinF f n).1 := by unfold joinW; rw [if_neg (by omega)]
      rw [e, hjl]
      exact ⟨_, _, rfl, rfl⟩
end Go.Proofs.X

namespace Go.Proofs.X
open Go Pal Go.Proofs
attribute [local irreducible] Pal.KO Pal.KC Pal.KQ Pal.KD
theorem c2062 : callable Tryz.prog F2062 = true := by kernel_rfl
theorem c2063 : callable Tryz.prog F2063 = true := by kernel_rfl
theorem addN_spec (xs ys : List Nat) (v w : Value) (H : View) (hv : UW H v xs) (hw : UW H w ys) (hlx : xs.length ≤ 1048576) (hly : ys.length ≤ 1048576) : Sat Tryz.prog F2035 #[.agg #[v], .agg #[w]] H (fun r H' => ∃ xa k cp, r = .agg #[.slice xa k cp] ∧ RepN H' (.slice xa k cp) (valW xs + valW ys)) := by
  obtain ⟨a, cp, rfl⟩ := hv.shape
  obtain ⟨a2, cp2, rfl⟩ := hw.shape
  have hf : ∀ i c, c ≤ 1 → (addF xs ys i c).1 < 4294967296 ∧ (addF xs ys i c).2 ≤ 1 := by
    intro i c hc
    have hx : xs.getD i 0 < 4294967296 := by
      by_cases h : i < xs.length
      · have := hv.2 _ (List.getElem_mem h); simpa [List.getD, h] using this
      · simp [List.getD, h]
    have hy : ys.getD i 0 < 4294967296 := by
      by_cases h : i < ys.length
      · have := hw.2 _ (List.getElem_mem h); simpa [List.getD, h] using this
      · simp [List.getD, h]
    simp only [addF]
    omega
  refine enterO (n := 15) (args := [.agg #[.slice a xs.length cp], .agg #[.slice a2 ys.length cp2]]) Tryz.func23 rfl rfl rfl fun w0 => ?_
  refine K_seq ?_
  refine K_region ?_
  refine KA (A_box rfl) rfl fun b2 => ?_
  refine KA (A_box rfl) rfl fun b3 => ?_
  refine KA (A_alloc z2009) rfl fun b4 => ?_
  refine K_nil ?_
  refine KQ_front 1 rfl ?_
  refine KQ_pubF fun Va hva hb3 => ?_
  try dsimp only [List.eraseIdx]
  refine KQ_front 1 rfl ?_
  refine KQ_pubF fun U hvb hb2 => ?_
  try dsimp only [List.eraseIdx]
  have hU := hva.trans hvb
  have hA2 := At.of hb2
  have hA3 := (At.of hb3).mono hvb
  refine Q_then ?_
  refine K_seq ?_
  refine K_region ?_
  refine KV (R_fieldAddr 0 fd2009_0 rfl) rfl ?_
  refine KV (R_loadH ty2007 rfl (hA2.one (j := 0) rfl) rfl (fun _ => rfl) rfl) rfl ?_
  refine KV (R_len sl2007 rfl) rfl ?_
  refine KV (R_fieldAddr 0 fd2009_0 rfl) rfl ?_
  refine KV (R_loadH ty2007 rfl (hA3.one (j := 0) rfl) rfl (fun _ => rfl) rfl) rfl ?_
  refine KV (R_len sl2007 rfl) rfl ?_
  refine KV (R_max2 rfl rfl) rfl ?_
  refine KV (R_makeFunc rfl rfl) rfl ?_
  obtain ⟨n, hn, hnx, hny, hn2⟩ : ∃ n : Nat, (if (ys.length : Int) > (xs.length : Int) then (ys.length : Int) else (xs.length : Int)) = (n : Int) ∧ xs.length ≤ n ∧ ys.length ≤ n ∧ n ≤ 1048576 := by
    by_cases h : (ys.length : Int) > (xs.length : Int)
    · exact ⟨ys.length, by rw [if_pos h], by omega, Nat.le_refl _, by omega⟩
    · exact ⟨xs.length, by rw [if_neg h], Nat.le_refl _, by omega, by omega⟩
  rw [hn]
  refine K_callO (first := []) [] [_] (List.Perm.refl _) c2062 rfl rfl rfl (join_spec n 1 F2063 [ptr b2, ptr b3] (addF xs ys) U (by omega) (by decide) hf c2063 (fun H2 i c hle hi hc => addcw_spec xs ys i c b2 b3 _ _ H2 (hv.mono (hU.trans hle)) (hw.mono (hU.trans hle)) (hA2.mono hle) (hA3.mono hle) (by omega) hc)) ?_
  rintro _ V1 q hv1 ⟨xa, cq, rfl, rfl⟩
  dsimp only [List.cons_append, List.nil_append]
  refine KO_pubrowF fun V2 hv2 hrow hcap => ?_
  obtain ⟨xa2, cq2, he, hcle⟩ := hcap
  cases he
  have hjw : WordsOk (joinW (addF xs ys) n) := by
    obtain ⟨g1, g2⟩ := joinF_ok hf n
    unfold joinW
    split
    · intro w hw
      rcases List.mem_append.1 hw with hw | hw
      · exact g1 w hw
      · simp at hw; subst hw; omega
    · exact g1
  have hjl : (joinW (addF xs ys) n).length ≤ n + 1 := by
    have := joinF_len (addF xs ys) n
    unfold joinW
    split
    · rw [List.length_append]; simp; omega
    · omega
  refine K_call c2047 rfl rfl (trimW_spec (joinW (addF xs ys) n) _ _ V2 ⟨hrow.sl, hjw⟩ hcle (by omega)) ?_
  rintro _ V3 hv3 ⟨ta, tk, rfl, hN⟩
  rw [joinW_val xs ys n hnx hny] at hN
  refine K_store ty2009 0 rfl rfl rfl rfl rfl rfl ?_
  refine K_nil ?_
  refine Q_then ?_
  refine K_ret ?_
  refine results_gen (rs := [.cell 4 31]) (vs := [_]) rfl ⟨⟨_, _, _, _, _, _, 0, rfl, rfl, ty2009, (fun e => by cases e), rfl, rfl⟩, trivial⟩ ?_
  exact ⟨_, _, _, rfl, hN⟩
end Go.Proofs.X

namespace Go.Proofs.X
open Go Pal Go.Proofs
attribute [local irreducible] Pal.KO Pal.KC Pal.KQ Pal.KD
theorem c2044 : callable Tryz.prog F2044 = true := by kernel_rfl
theorem c2076 : callable Tryz.prog F2076 = true := by kernel_rfl
theorem or_spec (xs : List Int) (b : Nat) (H : View) (hl : xs.length ≤ 1099511627776) : SatO Tryz.prog F2076 #[slc xs.length b] H [blk b (.cells (ints xs).toArray T3 (0, 0))] (fun r _ q => q = [] ∧ r = .int .i64 ((xs.find? fun x => decide (x ≠ 0)).getD 0)) := by
  refine enterO (n := 18) (args := [slc xs.length b]) Tryz.func99 rfl rfl rfl fun w0 => ?_
  refine K_seq ?_
  refine K_region ?_
  refine KV (R_assign rfl) rfl ?_
  refine K_nil ?_
  refine Q_then ?_
  refine K_seq ?_
  refine K_region ?_
  refine KV (R_assign rfl) rfl ?_
  refine K_nil ?_
  refine Q_then ?_
  refine K_seq ?_
  refine K_seq ?_
  refine K_region ?_
  refine KV (R_move rfl) rfl ?_
  refine KV (R_len sl25 rfl) rfl ?_
  refine KV (R_move rfl) rfl ?_
  refine K_nil ?_
  refine Q_then ?_
  refine K_block ?_
  refine K_loopD (G := Nat) [2, 5, 8, 9, 10, 11, 12, 13, 14, 15, 16] (fun g => [(8, .int .i64 (g : Int))]) (fun hl g => hl) (fun g => H) (fun g => (g ≤ xs.length) ∧ (xs.find? (fun x => decide (x ≠ 0)) = (xs.drop g).find? fun x => decide (x ≠ 0))) (fun g => xs.length - g) (0 : Nat) ⟨Nat.zero_le _, rfl⟩ ⟨rfl, trivial⟩ (by simp only [args0, Nat.reduceAdd, del, memN, beqN, Nat.reduceBEq, cond_true, cond_false]; rfl) rfl rfl ?_
  rintro k ⟨hk, hc⟩
  try dsimp only at hk
  try dsimp only at hc
  dsimp only [List.set, List.cons_append, List.nil_append]
  refine K_seq ?_
  refine K_region ?_
  refine KV (R_cmp rfl rfl rfl) rfl ?_
  refine K_nil ?_
  refine Q_then ?_
  refine K_seq ?_
  refine K_if rfl (fun h9 => ?_) (fun h9 => ?_)
  ·
    have hk' : k < xs.length := by omega
    refine K_skip ?_
    refine Q_then ?_
    refine K_seq ?_
    refine K_block ?_
    refine K_seq ?_
    refine K_region ?_
    refine KV (R_indexN sl25 ty3 rfl rfl (by omega)) rfl ?_
    refine KV (R_loadC ty3 0 rfl rfl (by simp [ints, hk'] : ((ints xs).toArray)[(0 + k * 1)]? = some (.int .i64 xs[k]))) rfl ?_
    refine KV (R_assign rfl) rfl ?_
    refine K_nil ?_
    refine Q_then ?_
    refine K_seq ?_
    refine K_region ?_
    refine KV (R_move rfl) rfl ?_
    refine KV (R_move rfl) rfl ?_
    refine KV (R_cmp rfl rfl rfl) rfl ?_
    refine K_nil ?_
    refine Q_then ?_
    refine K_if rfl (fun h14 => ?_) (fun h14 => ?_)
    ·
      refine K_seq ?_
      refine K_region ?_
      refine KV (R_move rfl) rfl ?_
      refine KV (R_assign rfl) rfl ?_
      refine K_nil ?_
      refine Q_then ?_
      refine K_ret ?_
      refine Q_block_ret ?_
      refine Q_then_ret ?_
      refine Q_then_ret ?_
      refine Q_block_ret ?_
      refine Q_then_ret ?_
      refine results_sel [] rfl (rs := [.tmp 2]) (vs := [_]) rfl ⟨rfl, trivial⟩ ?_
      rw [hc, List.drop_eq_getElem_cons hk', List.find?_cons_of_pos (by simpa using h14)]
      exact ⟨rfl, rfl⟩
    ·
      have hc2 : xs.find? (fun x => decide (x ≠ 0)) = (xs.drop (k + 1)).find? fun x => decide (x ≠ 0) := by
        rw [hc, List.drop_eq_getElem_cons hk', List.find?_cons_of_neg (by simpa using h14)]
      refine K_skip ?_
      refine Q_block ?_
      refine Q_then ?_
      refine K_region ?_
      refine KV (R_add rfl rfl (by omega)) rfl ?_
      refine KV (R_move rfl) rfl ?_
      refine K_nil ?_
      refine Q_nextD ((k + 1)) ⟨hk', hc2⟩ (by (try dsimp only); omega) ⟨rfl, trivial⟩ rfl rfl rfl
  ·
    have hk' : k = xs.length := by omega
    refine K_exit ?_
    refine Q_then_exit ?_
    refine Q_then_exit ?_
    refine Q_block_exit ?_
    refine Q_then ?_
    refine K_seq ?_
    refine K_region ?_
    refine KV (R_move rfl) rfl ?_
    refine KV (R_assign rfl) rfl ?_
    refine K_nil ?_
    refine Q_then ?_
    refine K_ret ?_
    refine results_sel [] rfl (rs := [.tmp 2]) (vs := [_]) rfl ⟨rfl, trivial⟩ ?_
    rw [hc, hk', List.drop_length]
    exact ⟨rfl, rfl⟩

theorem order_spec (r s : Rl) (a a2 : Option Addr) (cp cp2 : Nat) (H : View) (hr : SI H (.slice a r.args.length cp) r.args) (hs : SI H (.slice a2 s.args.length cp2) s.args) (hrl : r.args.length ≤ 1099511627776) (hsl : s.args.length ≤ 1099511627776) :
    Sat Tryz.prog F2050 #[.agg #[.int .i64 r.sym, .slice a r.args.length cp, .int .i64 r.to], .agg #[.int .i64 s.sym, .slice a2 s.args.length cp2, .int .i64 s.to]] H (fun v _ => v = .int .i64 (ordR r s)) := by
  refine enterO (n := 22) (args := [.agg #[.int .i64 r.sym, .slice a r.args.length cp, .int .i64 r.to], .agg #[.int .i64 s.sym, .slice a2 s.args.length cp2, .int .i64 s.to]]) Tryz.func105 rfl rfl rfl fun w0 => ?_
  refine K_seq ?_
  refine K_region ?_
  refine KA (A_box rfl) rfl fun b2 => ?_
  refine KA (A_box rfl) rfl fun b3 => ?_
  refine KV (R_assign rfl) rfl ?_
  refine K_nil ?_
  refine Q_then ?_
  refine K_seq ?_
  refine K_regionD (fin := false) (R := [0, 1, 2, 3, 5, 6, 7, 8, 10, 11, 12, 13, 4, 9, 14, 15, 16, 17]) (by kernel_rfl) mixed (.cons_cons _ (.cons_cons _ (List.nil_sublist _))) ?_
  refine D_val rfl rfl rfl (R_fieldAddr 0 fd85_0 rfl) ?_
  refine D_val rfl rfl rfl (R_loadO ty3 1 rfl rfl rfl rfl (fun _ => rfl) rfl) ?_
  refine D_val rfl rfl rfl (R_fieldAddr 0 fd85_0 rfl) ?_
  refine D_val rfl rfl rfl (R_loadO ty3 0 rfl rfl rfl rfl (fun _ => rfl) rfl) ?_
  refine D_val rfl rfl rfl (R_fieldAddr 1 fd85_1 rfl) ?_
  refine D_val rfl rfl rfl (R_loadO ty25 1 rfl rfl rfl rfl (fun _ => rfl) rfl) ?_
  refine D_val rfl rfl rfl (R_fieldAddr 1 fd85_1 rfl) ?_
  refine D_val rfl rfl rfl (R_loadO ty25 0 rfl rfl rfl rfl (fun _ => rfl) rfl) ?_
  refine D_val rfl rfl rfl (R_fieldAddr 2 fd85_2 rfl) ?_
  refine D_val rfl rfl rfl (R_loadO ty3 1 rfl rfl rfl rfl (fun _ => rfl) rfl) ?_
  refine D_val rfl rfl rfl (R_fieldAddr 2 fd85_2 rfl) ?_
  refine D_val rfl rfl rfl (R_loadO ty3 0 rfl rfl rfl rfl (fun _ => rfl) rfl) ?_
  refine D_call rfl rfl c2071 rfl ⟨⟨0, rfl⟩, ⟨1, rfl⟩, trivial⟩ (ccmp_spec r.sym s.sym H) ?_
  rintro _ V1 hv1 rfl
  refine D_call rfl rfl c2044 rfl ⟨⟨0, rfl⟩, ⟨1, rfl⟩, trivial⟩ (compareI_spec r.args s.args _ _ V1 (hr.mono hv1) (hs.mono hv1) hrl hsl) ?_
  rintro _ V2 hv2 rfl
  refine D_call rfl rfl c2071 rfl ⟨⟨0, rfl⟩, ⟨1, rfl⟩, trivial⟩ (ccmp_spec r.to s.to V2) ?_
  rintro _ V3 hv3 rfl
  refine D_alloc rfl rfl rfl (A_buildSlice (vs := [.int .i64 (if r.sym < s.sym then -1 else if s.sym < r.sym then 1 else 0), .int .i64 (cmpL r.args s.args), .int .i64 (if r.to < s.to then -1 else if s.to < r.to then 1 else 0)]) sl25 ty3 z3 rfl rfl (by simp [Value.cells]) (by simp) rfl (by decide)) fun b20 => ?_
  refine D_callO (first := []) [_] _ rfl rfl c2076 rfl rfl (List.Perm.refl _) ⟨⟨0, rfl⟩, ⟨1, rfl⟩, trivial⟩ (or_spec [(if r.sym < s.sym then -1 else if s.sym < r.sym then 1 else 0), cmpL r.args s.args, (if r.to < s.to then -1 else if s.to < r.to then 1 else 0)] b20 V3 (by simp)) ?_
  rintro _ V4 q hle4 ⟨rfl, rfl⟩
  dsimp only [List.nil_append]
  refine D_val rfl rfl rfl (R_assign rfl) ?_
  refine D_done ?_
  refine Q_then ?_
  refine K_ret ?_
  refine results_gen (rs := [.tmp 4]) (vs := [_]) rfl ⟨rfl, trivial⟩ ?_
  refine congrArg (Value.int .i64) ?_
  unfold ordR
  by_cases h1 : r.sym < s.sym
  · simp [h1]
  · by_cases h2 : s.sym < r.sym
    · simp [h1, h2]
    · by_cases h3 : cmpL r.args s.args = 0
      · by_cases h4 : r.to < s.to
        · simp [h1, h2, h3, h4]
        · by_cases h5 : s.to < r.to
          · simp [h1, h2, h3, h4, h5]
          · simp [h1, h2, h3, h4, h5]
      · simp [h1, h2, h3]
end Go.Proofs.X

namespace Go.Proofs.X
open Go Pal Go.Proofs
attribute [local irreducible] Pal.KO Pal.KC Pal.KQ Pal.KD

theorem compactR1_spec (ps : List (Rl × Value)) (gb cap : Nat) (tail : List Value) (H : View) (gf : Nat) (hct : callable Tryz.prog gf = true) (hps : ∀ p ∈ ps, RVok H p) (heq : ∀ H2 p q, VLe H H2 → RVok H2 p → RVok H2 q → Sat Tryz.prog gf ([] ++ [Value.agg (cellRV p).toArray, .agg (cellRV q).toArray] ++ []).toArray H2 (fun r _ => r = .bool (eqP p q))) (hl : ps.length ≤ 1099511627776) (hc : ps.length ≤ cap) (hcm : cap ≤ maxLen) (hcl : (ps.flatMap cellRV ++ tail).length = cap * 3) :
    SatO Tryz.prog F2073 #[.slice (some ⟨gb, 0, none⟩) ps.length cap, .func (.func gf) #[] #[]] H [blk gb (.cells (ps.flatMap cellRV ++ tail).toArray T85 (0, 0))] (fun r _ q => ∃ a cap, r = .slice a (compF eqP none ps).length cap ∧ q = [row r T85 3 (compF eqP none ps).length ((compF eqP none ps).flatMap cellRV)]) := by
  have hpl := flat_len cellRV_len ps
  refine enterO (n := 66) (args := [.slice (some ⟨gb, 0, none⟩) ps.length cap, .func (.func gf) #[] #[]]) Tryz.func106 rfl rfl rfl fun w0 => ?_
  refine K_seq ?_
  refine K_region ?_
  refine KV (R_assign rfl) rfl ?_
  refine K_nil ?_
  refine Q_then ?_
  refine K_seq ?_
  refine K_seq ?_
  refine K_region ?_
  refine KV (R_move rfl) rfl ?_
  refine KV (R_len sl48 rfl) rfl ?_
  refine KV (R_cmp rfl rfl rfl) rfl ?_
  refine K_nil ?_
  refine Q_then ?_
  refine K_if rfl (fun h0 => ?_) (fun h0 => ?_)
  ·
    have hsh : ps.length < 2 := by omega
    refine K_seq ?_
    refine K_region ?_
    refine KV (R_move rfl) rfl ?_
    refine KV (R_assign rfl) rfl ?_
    refine K_nil ?_
    refine Q_then ?_
    refine K_ret ?_
    refine Q_then_ret ?_
    refine KQ_shutRow (sz := 3) (k := ps.length) hc hcm hpl (by simpa using hcl) (by simpa using flat_take cellRV_len ps tail (Nat.le_refl _)) ?_
    refine results_sel [0] rfl (rs := [.tmp 4]) (vs := [_]) rfl ⟨rfl, trivial⟩ ?_
    have e := compF_all (eq := eqP) (xs := ps) (k := ps.length) (Nat.le_refl _) (fun j h h1 h2 => by omega)
    rw [List.take_length] at e
    rw [e]
    exact ⟨_, _, rfl, rfl⟩
  ·
    have hsh : 2 ≤ ps.length := by omega
    refine K_skip ?_
    refine Q_then ?_
    refine K_seq ?_
    refine K_seq ?_
    refine K_region ?_
    refine KV (R_assign rfl) rfl ?_
    refine K_nil ?_
    refine Q_then ?_
    refine K_block ?_
    refine K_loopD (G := Nat × View) [4, 5, 6, 7, 12, 13, 14, 15, 16, 17, 18, 19, 20, 21, 22, 23, 24, 25, 26, 27, 28, 29, 30, 31, 32, 33, 34, 35, 36, 37, 38, 39, 40, 41, 42, 43, 44, 45, 46, 47, 48, 49, 50, 51, 52, 53, 54, 55, 56, 57, 58, 59, 60, 61, 62, 63, 64] (fun g => [(5, .int .i64 (g.1 : Int))]) (fun hl g => hl) (fun g => g.2) (fun g => (1 ≤ g.1) ∧ (g.1 ≤ ps.length) ∧ (VLe H g.2) ∧ (∀ j (h : j < ps.length), 0 < j → j < g.1 → eqP ps[j] ps[j - 1] = false)) (fun g => ps.length - g.1) (1, H) ⟨Nat.le_refl _, by omega, VLe.refl _, fun j h h1 h2 => by omega⟩ ⟨rfl, trivial⟩ (by simp only [args0, Nat.reduceAdd, del, memN, beqN, Nat.reduceBEq, cond_true, cond_false]; rfl) rfl rfl ?_
    rintro ⟨k, V⟩ ⟨hk1, hk, hV, hall⟩
    dsimp only at hk1 hk hV hall
    dsimp only [List.set, List.cons_append, List.nil_append]
    refine K_seq ?_
    refine K_seq ?_
    refine K_region ?_
    refine KV (R_move rfl) rfl ?_
    refine KV (R_move rfl) rfl ?_
    refine KV (R_len sl48 rfl) rfl ?_
    refine KV (R_cmp rfl rfl rfl) rfl ?_
    refine K_nil ?_
    refine Q_then ?_
    refine K_if rfl (fun h1 => ?_) (fun h1 => ?_)
    ·
      have hk' : k < ps.length := by omega
      refine K_skip ?_
      refine Q_then ?_
      refine K_seq ?_
      refine K_block ?_
      refine K_seq ?_
      refine K_regionD (fin := false) (R := [0, 1, 2, 3, 4, 5, 6, 7, 8, 9, 10]) (by kernel_rfl) mixed (.cons_cons _ (List.nil_sublist _)) ?_
      refine D_val rfl rfl rfl (R_move rfl) ?_
      refine D_val rfl rfl rfl (R_move rfl) ?_
      refine D_val rfl rfl rfl (R_move rfl) ?_
      refine D_val rfl rfl rfl (R_indexN sl48 ty85 rfl rfl (by omega)) ?_
      refine D_val rfl rfl rfl (R_loadO ty85 0 rfl rfl (flat_get cellRV_len ps tail (i := k) (by omega) (by omega)) rfl (fun e => by cases e) rfl) ?_
      refine D_val rfl rfl rfl (R_move rfl) ?_
      refine D_val rfl rfl rfl (R_move rfl) ?_
      refine D_val rfl rfl rfl (R_sub rfl rfl (by omega)) ?_
      refine D_val rfl rfl rfl (R_index sl48 ty85 rfl rfl ⟨by omega, by omega⟩) ?_
      refine D_val rfl rfl rfl (R_loadO ty85 0 rfl rfl (flat_get cellRV_len ps tail (i := k - 1) (by omega) (by omega)) rfl (fun e => by cases e) rfl) ?_
      refine D_callV rfl rfl hct rfl rfl ⟨⟨0, rfl⟩, trivial⟩ (heq V ps[k] ps[k - 1] (hV) ((hps _ (List.getElem_mem (by omega))).mono (hV)) ((hps _ (List.getElem_mem (by omega))).mono (hV))) ?_
      rintro _ V1 hvV1 rfl
      refine D_done ?_
      refine Q_then ?_
      refine K_ifB rfl (fun heq1 => ?_) (fun heq1 => ?_)
      ·
        refine K_seq ?_
        refine K_region ?_
        refine KV (R_move rfl) rfl ?_
        refine KV (R_move rfl) rfl ?_
        refine KV (R_sliceLoE (m := k) sl48 ty85 rfl rfl (by omega) (by omega)) rfl ?_
        refine KV (R_assign rfl) rfl ?_
        refine K_nil ?_
        refine Q_then ?_
        refine K_seq ?_
        refine K_seq ?_
        refine K_region ?_
        refine KV (R_assign rfl) rfl ?_
        refine K_nil ?_
        refine Q_then ?_
        refine K_block ?_
        refine K_loopD (G := Nat × Nat × (List (Rl × Value)) × View) [5, 7, 32, 33, 34, 35, 36, 37, 38, 39, 40, 41, 42, 43, 44, 45, 46, 47, 48, 49, 50, 51, 52, 53, 54, 55, 56, 57, 58] (fun g => [(7, .int .i64 (g.1 : Int)), (5, .int .i64 (g.2.1 : Int))]) (fun hl g => (hl.set 0 (blk gb (.cells (g.2.2.1.flatMap cellRV ++ tail).toArray T85 (0, 0))))) (fun g => g.2.2.2) (fun g => (1 ≤ g.1) ∧ (CpI eqP ps g.2.2.1 g.2.1 (k + g.1)) ∧ (VLe H g.2.2.2)) (fun g => ps.length - (k + g.1)) (1, k, ps, V1) ⟨Nat.le_refl _, CpI.start (show 0 < k by omega) hk' hall heq1, hV.trans hvV1⟩ ⟨rfl, rfl, trivial⟩ (by simp only [args0, Nat.reduceAdd, del, memN, beqN, Nat.reduceBEq, cond_true, cond_false]; rfl) rfl rfl ?_
        rintro ⟨rr, wr, its, V2⟩ ⟨hr1, hcp, hV2⟩
        dsimp only at hr1 hcp hV2
        dsimp only [List.set, List.cons_append, List.nil_append]
        have hcpl := hcp.len
        have hcpw := hcp.wm
        have hcpm := hcp.mn
        have hBs : ((its.flatMap cellRV ++ tail).toArray).size = cap * 3 := by
          rw [List.size_toArray, List.length_append, flat_len cellRV_len, hcp.len]
          rw [List.length_append, flat_len cellRV_len] at hcl
          exact hcl
        refine K_seq ?_
        refine K_seq ?_
        refine K_region ?_
        refine KV (R_move rfl) rfl ?_
        refine KV (R_move rfl) rfl ?_
        refine KV (R_len sl48 rfl) rfl ?_
        refine KV (R_cmp rfl rfl rfl) rfl ?_
        refine K_nil ?_
        refine Q_then ?_
        refine K_if rfl (fun h2 => ?_) (fun h2 => ?_)
        ·
          have hr' : k + rr < ps.length := by omega
          refine K_skip ?_
          refine Q_then ?_
          refine K_seq ?_
          refine K_block ?_
          refine K_seq ?_
          refine K_regionD (fin := false) (R := [0, 1, 2, 3, 4, 5, 6, 7, 8, 9, 10, 11]) (by kernel_rfl) mixed (.cons_cons _ (List.nil_sublist _)) ?_
          refine D_val rfl rfl rfl (R_move rfl) ?_
          refine D_val rfl rfl rfl (R_move rfl) ?_
          refine D_val rfl rfl rfl (R_move rfl) ?_
          refine D_val rfl rfl rfl (R_indexN sl48 ty85 rfl rfl (by omega)) ?_
          refine D_val rfl rfl rfl (R_loadO ty85 0 rfl rfl ((flat_get cellRV_len its tail (i := k + rr) (by omega) (by omega)).trans (congrArg cellRV (hcp.todo (k + rr) (by omega) (by omega)))) rfl (fun e => by cases e) rfl) ?_
          refine D_val rfl rfl rfl (R_move rfl) ?_
          refine D_val rfl rfl rfl (R_move rfl) ?_
          refine D_val rfl rfl rfl (R_sub rfl rfl (by omega)) ?_
          refine D_val rfl rfl rfl (R_index sl48 ty85 rfl rfl ⟨by omega, by omega⟩) ?_
          refine D_val rfl rfl rfl (R_loadO ty85 0 rfl rfl ((flat_get cellRV_len its tail (i := k + rr - 1) (by omega) (by omega)).trans (congrArg cellRV (hcp.todo (k + rr - 1) (by omega) (by omega)))) rfl (fun e => by cases e) rfl) ?_
          refine D_callV rfl rfl hct rfl rfl ⟨⟨0, rfl⟩, trivial⟩ (heq V2 ps[k + rr] ps[k + rr - 1] (hV2) ((hps _ (List.getElem_mem (by omega))).mono (hV2)) ((hps _ (List.getElem_mem (by omega))).mono (hV2))) ?_
          rintro _ V3 hvV3 rfl
          refine D_val rfl rfl rfl (R_notP rfl) ?_
          refine D_done ?_
          refine Q_then ?_
          refine K_ifB rfl (fun hne1 => ?_) (fun hne1 => ?_)
          ·
            have hd : eqP ps[k + rr] ps[k + rr - 1] = false := by simpa [eqP] using hne1
            refine K_seq ?_
            refine K_region ?_
            refine KV (R_move rfl) rfl ?_
            refine KV (R_move rfl) rfl ?_
            refine KV (R_move rfl) rfl ?_
            refine KV (R_move rfl) rfl ?_
            refine KV (R_indexN sl48 ty85 rfl rfl (by omega)) rfl ?_
            refine KV (R_loadO ty85 0 rfl rfl ((flat_get cellRV_len its tail (i := k + rr) (by omega) (by omega)).trans (congrArg cellRV (hcp.todo (k + rr) (by omega) (by omega)))) rfl (fun e => by cases e) rfl) rfl ?_
            refine KV (R_indexN sl48 ty85 rfl rfl (by omega)) rfl ?_
            refine K_storeE ty85 0 rfl rfl rfl rfl (show 0 + wr * 3 + 3 ≤ _ by rw [hBs]; omega) ((hps _ (List.getElem_mem (show k + rr < ps.length by omega))).one) (flat_put cellRV_len its tail (i := wr) (by omega) ps[k + rr] (by omega) rfl) ?_
            refine K_nil ?_
            refine Q_then ?_
            refine K_region ?_
            refine KV (R_move rfl) rfl ?_
            refine KV (R_add rfl rfl (by omega)) rfl ?_
            refine KV (R_assign rfl) rfl ?_
            refine K_nil ?_
            refine Q_block ?_
            refine Q_then ?_
            refine K_region ?_
            refine KV (R_move rfl) rfl ?_
            refine KV (R_add rfl rfl (by omega)) rfl ?_
            refine KV (R_assign rfl) rfl ?_
            refine K_nil ?_
            refine Q_nextD (rr + 1, wr + 1, its.set wr ps[k + rr], V3) ⟨by dsimp only; omega, hcp.keep hr' hd, hV2.trans hvV3⟩ (by (try dsimp only); omega) ⟨rfl, rfl, trivial⟩ rfl rfl rfl
          ·
            have hd : eqP ps[k + rr] ps[k + rr - 1] = true := by simpa [eqP] using hne1
            refine K_skip ?_
            refine Q_block ?_
            refine Q_then ?_
            refine K_region ?_
            refine KV (R_move rfl) rfl ?_
            refine KV (R_add rfl rfl (by omega)) rfl ?_
            refine KV (R_assign rfl) rfl ?_
            refine K_nil ?_
            refine Q_nextD (rr + 1, wr, its, V3) ⟨by dsimp only; omega, hcp.skip hr' hd, hV2.trans hvV3⟩ (by (try dsimp only); omega) ⟨rfl, rfl, trivial⟩ rfl rfl rfl
        ·
          have hr' : k + rr = ps.length := by omega
          refine K_exit ?_
          refine Q_then_exit ?_
          refine Q_then_exit ?_
          refine Q_block_exit ?_
          refine Q_then ?_
          refine K_seq ?_
          refine K_region ?_
          refine KV (R_move rfl) rfl ?_
          refine KV (R_move rfl) rfl ?_
          refine KV (R_sliceLoE (m := wr) sl48 ty85 rfl rfl (by omega) (by omega)) rfl ?_
          refine K_clear 0 (m := 3) sl48 z85 (by simp [Value.cells, Value.oneCell']) rfl rfl rfl (by rw [hBs]; omega) fun cur hcz hct2 => ?_
          refine K_nil ?_
          refine Q_then ?_
          refine K_seq ?_
          refine K_region ?_
          refine KV (R_move rfl) rfl ?_
          refine KV (R_move rfl) rfl ?_
          refine KV (R_sliceHiE (m := wr) sl48 ty85 rfl rfl (by omega)) rfl ?_
          refine KV (R_assign rfl) rfl ?_
          refine K_nil ?_
          refine Q_then ?_
          refine K_ret ?_
          refine Q_block_ret ?_
          refine Q_then_ret ?_
          refine Q_then_ret ?_
          refine Q_block_ret ?_
          refine Q_then_ret ?_
          have hdone := hcp.done
          rw [hr', List.take_length] at hdone
          have hwl : (its.take wr).length = wr := by rw [List.length_take]; omega
          have hits := flat_len cellRV_len its
          refine KQ_shutRow (sz := 3) (k := wr) (xs := (its.take wr).flatMap cellRV) (by omega) hcm (by rw [flat_len cellRV_len, hwl]) (by rw [hcz]; exact hBs) (by rw [show wr * 3 = 0 + wr * 3 by omega, hct2, Nat.zero_add]; exact flat_take cellRV_len its tail (by omega)) ?_
          refine results_sel [0] rfl (rs := [.tmp 4]) (vs := [_]) rfl ⟨rfl, trivial⟩ ?_
          rw [← hdone, hwl]
          exact ⟨_, _, rfl, rfl⟩
      ·
        have hall2 : ∀ j (h : j < ps.length), 0 < j → j < k + 1 → eqP ps[j] ps[j - 1] = false := by
          intro j h hj hjk
          by_cases e : j = k
          · subst e; exact heq1
          · exact hall j h hj (by omega)
        refine K_skip ?_
        refine Q_block ?_
        refine Q_then ?_
        refine K_region ?_
        refine KV (R_move rfl) rfl ?_
        refine KV (R_add rfl rfl (by omega)) rfl ?_
        refine KV (R_assign rfl) rfl ?_
        refine K_nil ?_
        refine Q_nextD (k + 1, V1) ⟨by dsimp only; omega, hk', hV.trans hvV1, hall2⟩ (by (try dsimp only); omega) ⟨rfl, trivial⟩ rfl rfl rfl
    ·
      have hk' : k = ps.length := by omega
      refine K_exit ?_
      refine Q_then_exit ?_
      refine Q_then_exit ?_
      refine Q_block_exit ?_
      refine Q_then ?_
      refine K_seq ?_
      refine K_region ?_
      refine KV (R_move rfl) rfl ?_
      refine KV (R_assign rfl) rfl ?_
      refine K_nil ?_
      refine Q_then ?_
      refine K_ret ?_
      refine KQ_shutRow (sz := 3) (k := ps.length) hc hcm hpl (by simpa using hcl) (by simpa using flat_take cellRV_len ps tail (Nat.le_refl _)) ?_
      refine results_sel [0] rfl (rs := [.tmp 4]) (vs := [_]) rfl ⟨rfl, trivial⟩ ?_
      have e := compF_all (eq := eqP) (xs := ps) (k := ps.length) (Nat.le_refl _) (fun j h h1 h2 => hall j h h1 (by omega))
      rw [List.take_length] at e
      rw [e]
      exact ⟨_, _, rfl, rfl⟩

theorem compactR0_spec (gf : Nat) (H : View) : SatO Tryz.prog F2073 #[nilS, .func (.func gf) #[] #[]] H [] (fun r _ q => r = nilS ∧ q = [row nilS T85 3 0 []]) := by
  refine enterO (n := 66) (args := [nilS, .func (.func gf) #[] #[]]) Tryz.func106 rfl rfl rfl fun w0 => ?_
  refine K_seq ?_
  refine K_region ?_
  refine KV (R_assign rfl) rfl ?_
  refine K_nil ?_
  refine Q_then ?_
  refine K_seq ?_
  refine K_seq ?_
  refine K_region ?_
  refine KV (R_move rfl) rfl ?_
  refine KV (R_len sl48 rfl) rfl ?_
  refine KV (R_cmp rfl rfl rfl) rfl ?_
  refine K_nil ?_
  refine Q_then ?_
  refine K_if rfl (fun h0 => ?_) (fun h0 => ?_)
  ·
    refine K_seq ?_
    refine K_region ?_
    refine KV (R_move rfl) rfl ?_
    refine KV (R_assign rfl) rfl ?_
    refine K_nil ?_
    refine Q_then ?_
    refine K_ret ?_
    refine Q_then_ret ?_
    refine KQ_nilrow T85 3 ?_
    refine results_gen (rs := [.tmp 4]) (vs := [_]) rfl ⟨rfl, trivial⟩ ?_
    exact ⟨rfl, rfl⟩
  ·
    exact absurd (by omega) h0

theorem compactI1_spec (ps : List (Int)) (gb cap : Nat) (tail : List Value) (H : View)  (hl : ps.length ≤ 1099511627776) (hc : ps.length ≤ cap) (hcm : cap ≤ maxLen) (hcl : (ps.flatMap cellI ++ tail).length = cap * 1) :
    SatO Tryz.prog F2075 #[.slice (some ⟨gb, 0, none⟩) ps.length cap] H [blk gb (.cells (ps.flatMap cellI ++ tail).toArray T3 (0, 0))] (fun r _ q => ∃ a cap, r = .slice a (compF eqI none ps).length cap ∧ q = [row r T3 1 (compF eqI none ps).length ((compF eqI none ps).flatMap cellI)]) := by
  have hpl := flat_len cellI_len ps
  refine enterO (n := 61) (args := [.slice (some ⟨gb, 0, none⟩) ps.length cap]) Tryz.func109 rfl rfl rfl fun w0 => ?_
  refine K_seq ?_
  refine K_region ?_
  refine KV (R_assign rfl) rfl ?_
  refine K_nil ?_
  refine Q_then ?_
  refine K_seq ?_
  refine K_seq ?_
  refine K_region ?_
  refine KV (R_move rfl) rfl ?_
  refine KV (R_len sl25 rfl) rfl ?_
  refine KV (R_cmp rfl rfl rfl) rfl ?_
  refine K_nil ?_
  refine Q_then ?_
  refine K_if rfl (fun h0 => ?_) (fun h0 => ?_)
  ·
    have hsh : ps.length < 2 := by omega
    refine K_seq ?_
    refine K_region ?_
    refine KV (R_move rfl) rfl ?_
    refine KV (R_assign rfl) rfl ?_
    refine K_nil ?_
    refine Q_then ?_
    refine K_ret ?_
    refine Q_then_ret ?_
    refine KQ_shutRow (sz := 1) (k := ps.length) hc hcm hpl (by simpa using hcl) (by simpa using flat_take cellI_len ps tail (Nat.le_refl _)) ?_
    refine results_sel [0] rfl (rs := [.tmp 2]) (vs := [_]) rfl ⟨rfl, trivial⟩ ?_
    have e := compF_all (eq := eqI) (xs := ps) (k := ps.length) (Nat.le_refl _) (fun j h h1 h2 => by omega)
    rw [List.take_length] at e
    rw [e]
    exact ⟨_, _, rfl, rfl⟩
  ·
    have hsh : 2 ≤ ps.length := by omega
    refine K_skip ?_
    refine Q_then ?_
    refine K_seq ?_
    refine K_seq ?_
    refine K_region ?_
    refine KV (R_assign rfl) rfl ?_
    refine K_nil ?_
    refine Q_then ?_
    refine K_block ?_
    refine K_loopD (G := Nat × View) [2, 3, 4, 5, 10, 11, 12, 13, 14, 15, 16, 17, 18, 19, 20, 21, 22, 23, 24, 25, 26, 27, 28, 29, 30, 31, 32, 33, 34, 35, 36, 37, 38, 39, 40, 41, 42, 43, 44, 45, 46, 47, 48, 49, 50, 51, 52, 53, 54, 55, 56, 57, 58, 59] (fun g => [(3, .int .i64 (g.1 : Int))]) (fun hl g => hl) (fun g => g.2) (fun g => (1 ≤ g.1) ∧ (g.1 ≤ ps.length) ∧ (VLe H g.2) ∧ (∀ j (h : j < ps.length), 0 < j → j < g.1 → eqI ps[j] ps[j - 1] = false)) (fun g => ps.length - g.1) (1, H) ⟨Nat.le_refl _, by omega, VLe.refl _, fun j h h1 h2 => by omega⟩ ⟨rfl, trivial⟩ (by simp only [args0, Nat.reduceAdd, del, memN, beqN, Nat.reduceBEq, cond_true, cond_false]; rfl) rfl rfl ?_
    rintro ⟨k, V⟩ ⟨hk1, hk, hV, hall⟩
    dsimp only at hk1 hk hV hall
    dsimp only [List.set, List.cons_append, List.nil_append]
    refine K_seq ?_
    refine K_seq ?_
    refine K_region ?_
    refine KV (R_move rfl) rfl ?_
    refine KV (R_move rfl) rfl ?_
    refine KV (R_len sl25 rfl) rfl ?_
    refine KV (R_cmp rfl rfl rfl) rfl ?_
    refine K_nil ?_
    refine Q_then ?_
    refine K_if rfl (fun h1 => ?_) (fun h1 => ?_)
    ·
      have hk' : k < ps.length := by omega
      refine K_skip ?_
      refine Q_then ?_
      refine K_seq ?_
      refine K_block ?_
      refine K_seq ?_
      refine K_regionD (fin := false) (R := [0, 1, 2, 3, 4, 5, 6, 7, 8, 9]) (by kernel_rfl) mixed (.cons_cons _ (List.nil_sublist _)) ?_
      refine D_val rfl rfl rfl (R_move rfl) ?_
      refine D_val rfl rfl rfl (R_move rfl) ?_
      refine D_val rfl rfl rfl (R_indexN sl25 ty3 rfl rfl (by omega)) ?_
      refine D_val rfl rfl rfl (R_loadO ty3 0 rfl rfl (flat_get cellI_len ps tail (i := k) (by omega) (by omega)) rfl (fun _ => rfl) rfl) ?_
      refine D_val rfl rfl rfl (R_move rfl) ?_
      refine D_val rfl rfl rfl (R_move rfl) ?_
      refine D_val rfl rfl rfl (R_sub rfl rfl (by omega)) ?_
      refine D_val rfl rfl rfl (R_index sl25 ty3 rfl rfl ⟨by omega, by omega⟩) ?_
      refine D_val rfl rfl rfl (R_loadO ty3 0 rfl rfl (flat_get cellI_len ps tail (i := k - 1) (by omega) (by omega)) rfl (fun _ => rfl) rfl) ?_
      refine D_val rfl rfl rfl (R_cmp rfl rfl rfl) ?_
      refine D_done ?_
      refine Q_then ?_
      refine K_if rfl (fun heq1 => ?_) (fun heq1 => ?_)
      ·
        have heq1 := decide_eq_true heq1
        refine K_seq ?_
        refine K_region ?_
        refine KV (R_move rfl) rfl ?_
        refine KV (R_move rfl) rfl ?_
        refine KV (R_sliceLoE (m := k) sl25 ty3 rfl rfl (by omega) (by omega)) rfl ?_
        refine KV (R_assign rfl) rfl ?_
        refine K_nil ?_
        refine Q_then ?_
        refine K_seq ?_
        refine K_seq ?_
        refine K_region ?_
        refine KV (R_assign rfl) rfl ?_
        refine K_nil ?_
        refine Q_then ?_
        refine K_block ?_
        refine K_loopD (G := Nat × Nat × List (Int) × View) [3, 5, 29, 30, 31, 32, 33, 34, 35, 36, 37, 38, 39, 40, 41, 42, 43, 44, 45, 46, 47, 48, 49, 50, 51, 52, 53] (fun g => [(5, .int .i64 (g.1 : Int)), (3, .int .i64 (g.2.1 : Int))]) (fun hl g => (hl.set 0 (blk gb (.cells (g.2.2.1.flatMap cellI ++ tail).toArray T3 (0, 0))))) (fun g => g.2.2.2) (fun g => (1 ≤ g.1) ∧ (CpI eqI ps g.2.2.1 g.2.1 (k + g.1)) ∧ (VLe H g.2.2.2)) (fun g => ps.length - (k + g.1)) (1, k, ps, V) ⟨Nat.le_refl _, CpI.start (show 0 < k by omega) hk' hall heq1, hV⟩ ⟨rfl, rfl, trivial⟩ (by simp only [args0, Nat.reduceAdd, del, memN, beqN, Nat.reduceBEq, cond_true, cond_false]; rfl) rfl rfl ?_
        rintro ⟨rr, wr, its, V2⟩ ⟨hr1, hcp, hV2⟩
        dsimp only at hr1 hcp hV2
        dsimp only [List.set, List.cons_append, List.nil_append]
        have hcpl := hcp.len
        have hcpw := hcp.wm
        have hcpm := hcp.mn
        have hBs : ((its.flatMap cellI ++ tail).toArray).size = cap * 1 := by
          rw [List.size_toArray, List.length_append, flat_len cellI_len, hcp.len]
          rw [List.length_append, flat_len cellI_len] at hcl
          exact hcl
        refine K_seq ?_
        refine K_seq ?_
        refine K_region ?_
        refine KV (R_move rfl) rfl ?_
        refine KV (R_move rfl) rfl ?_
        refine KV (R_len sl25 rfl) rfl ?_
        refine KV (R_cmp rfl rfl rfl) rfl ?_
        refine K_nil ?_
        refine Q_then ?_
        refine K_if rfl (fun h2 => ?_) (fun h2 => ?_)
        ·
          have hr' : k + rr < ps.length := by omega
          refine K_skip ?_
          refine Q_then ?_
          refine K_seq ?_
          refine K_block ?_
          refine K_seq ?_
          refine K_regionD (fin := false) (R := [0, 1, 2, 3, 4, 5, 6, 7, 8, 9]) (by kernel_rfl) mixed (.cons_cons _ (List.nil_sublist _)) ?_
          refine D_val rfl rfl rfl (R_move rfl) ?_
          refine D_val rfl rfl rfl (R_move rfl) ?_
          refine D_val rfl rfl rfl (R_indexN sl25 ty3 rfl rfl (by omega)) ?_
          refine D_val rfl rfl rfl (R_loadO ty3 0 rfl rfl ((flat_get cellI_len its tail (i := k + rr) (by omega) (by omega)).trans (congrArg cellI (hcp.todo (k + rr) (by omega) (by omega)))) rfl (fun _ => rfl) rfl) ?_
          refine D_val rfl rfl rfl (R_move rfl) ?_
          refine D_val rfl rfl rfl (R_move rfl) ?_
          refine D_val rfl rfl rfl (R_sub rfl rfl (by omega)) ?_
          refine D_val rfl rfl rfl (R_index sl25 ty3 rfl rfl ⟨by omega, by omega⟩) ?_
          refine D_val rfl rfl rfl (R_loadO ty3 0 rfl rfl ((flat_get cellI_len its tail (i := k + rr - 1) (by omega) (by omega)).trans (congrArg cellI (hcp.todo (k + rr - 1) (by omega) (by omega)))) rfl (fun _ => rfl) rfl) ?_
          refine D_val rfl rfl rfl (R_cmp rfl rfl rfl) ?_
          refine D_done ?_
          refine Q_then ?_
          refine K_if rfl (fun hne1 => ?_) (fun hne1 => ?_)
          ·
            have hd : eqI ps[k + rr] ps[k + rr - 1] = false := by simpa [eqI] using hne1
            refine K_seq ?_
            refine K_region ?_
            refine KV (R_move rfl) rfl ?_
            refine KV (R_move rfl) rfl ?_
            refine KV (R_move rfl) rfl ?_
            refine KV (R_move rfl) rfl ?_
            refine KV (R_indexN sl25 ty3 rfl rfl (by omega)) rfl ?_
            refine KV (R_loadO ty3 0 rfl rfl ((flat_get cellI_len its tail (i := k + rr) (by omega) (by omega)).trans (congrArg cellI (hcp.todo (k + rr) (by omega) (by omega)))) rfl (fun _ => rfl) rfl) rfl ?_
            refine KV (R_indexN sl25 ty3 rfl rfl (by omega)) rfl ?_
            refine K_storeE ty3 0 rfl rfl rfl rfl (show 0 + wr * 1 + 1 ≤ _ by rw [hBs]; omega) (rfl) (flat_put cellI_len its tail (i := wr) (by omega) ps[k + rr] (by omega) rfl) ?_
            refine K_nil ?_
            refine Q_then ?_
            refine K_region ?_
            refine KV (R_move rfl) rfl ?_
            refine KV (R_add rfl rfl (by omega)) rfl ?_
            refine KV (R_assign rfl) rfl ?_
            refine K_nil ?_
            refine Q_block ?_
            refine Q_then ?_
            refine K_region ?_
            refine KV (R_move rfl) rfl ?_
            refine KV (R_add rfl rfl (by omega)) rfl ?_
            refine KV (R_assign rfl) rfl ?_
            refine K_nil ?_
            refine Q_nextD (rr + 1, wr + 1, its.set wr ps[k + rr], V2) ⟨by dsimp only; omega, hcp.keep hr' hd, hV2⟩ (by (try dsimp only); omega) ⟨rfl, rfl, trivial⟩ rfl rfl rfl
          ·
            have hd : eqI ps[k + rr] ps[k + rr - 1] = true := by simpa [eqI] using hne1
            refine K_skip ?_
            refine Q_block ?_
            refine Q_then ?_
            refine K_region ?_
            refine KV (R_move rfl) rfl ?_
            refine KV (R_add rfl rfl (by omega)) rfl ?_
            refine KV (R_assign rfl) rfl ?_
            refine K_nil ?_
            refine Q_nextD (rr + 1, wr, its, V2) ⟨by dsimp only; omega, hcp.skip hr' hd, hV2⟩ (by (try dsimp only); omega) ⟨rfl, rfl, trivial⟩ rfl rfl rfl
        ·
          have hr' : k + rr = ps.length := by omega
          refine K_exit ?_
          refine Q_then_exit ?_
          refine Q_then_exit ?_
          refine Q_block_exit ?_
          refine Q_then ?_
          refine K_seq ?_
          refine K_region ?_
          refine KV (R_move rfl) rfl ?_
          refine KV (R_move rfl) rfl ?_
          refine KV (R_sliceLoE (m := wr) sl25 ty3 rfl rfl (by omega) (by omega)) rfl ?_
          refine K_clear 0 (m := 1) sl25 z3 (by simp [Value.cells, Value.oneCell']) rfl rfl rfl (by rw [hBs]; omega) fun cur hcz hct2 => ?_
          refine K_nil ?_
          refine Q_then ?_
          refine K_seq ?_
          refine K_region ?_
          refine KV (R_move rfl) rfl ?_
          refine KV (R_move rfl) rfl ?_
          refine KV (R_sliceHiE (m := wr) sl25 ty3 rfl rfl (by omega)) rfl ?_
          refine KV (R_assign rfl) rfl ?_
          refine K_nil ?_
          refine Q_then ?_
          refine K_ret ?_
          refine Q_block_ret ?_
          refine Q_then_ret ?_
          refine Q_then_ret ?_
          refine Q_block_ret ?_
          refine Q_then_ret ?_
          have hdone := hcp.done
          rw [hr', List.take_length] at hdone
          have hwl : (its.take wr).length = wr := by rw [List.length_take]; omega
          have hits := flat_len cellI_len its
          refine KQ_shutRow (sz := 1) (k := wr) (xs := (its.take wr).flatMap cellI) (by omega) hcm (by rw [flat_len cellI_len, hwl]) (by rw [hcz]; exact hBs) (by rw [show wr * 1 = 0 + wr * 1 by omega, hct2, Nat.zero_add]; exact flat_take cellI_len its tail (by omega)) ?_
          refine results_sel [0] rfl (rs := [.tmp 2]) (vs := [_]) rfl ⟨rfl, trivial⟩ ?_
          rw [← hdone, hwl]
          exact ⟨_, _, rfl, rfl⟩
      ·
        have heq1 := decide_eq_false heq1
        have hall2 : ∀ j (h : j < ps.length), 0 < j → j < k + 1 → eqI ps[j] ps[j - 1] = false := by
          intro j h hj hjk
          by_cases e : j = k
          · subst e; exact heq1
          · exact hall j h hj (by omega)
        refine K_skip ?_
        refine Q_block ?_
        refine Q_then ?_
        refine K_region ?_
        refine KV (R_move rfl) rfl ?_
        refine KV (R_add rfl rfl (by omega)) rfl ?_
        refine KV (R_assign rfl) rfl ?_
        refine K_nil ?_
        refine Q_nextD (k + 1, V) ⟨by dsimp only; omega, hk', hV, hall2⟩ (by (try dsimp only); omega) ⟨rfl, trivial⟩ rfl rfl rfl
    ·
      have hk' : k = ps.length := by omega
      refine K_exit ?_
      refine Q_then_exit ?_
      refine Q_then_exit ?_
      refine Q_block_exit ?_
      refine Q_then ?_
      refine K_seq ?_
      refine K_region ?_
      refine KV (R_move rfl) rfl ?_
      refine KV (R_assign rfl) rfl ?_
      refine K_nil ?_
      refine Q_then ?_
      refine K_ret ?_
      refine KQ_shutRow (sz := 1) (k := ps.length) hc hcm hpl (by simpa using hcl) (by simpa using flat_take cellI_len ps tail (Nat.le_refl _)) ?_
      refine results_sel [0] rfl (rs := [.tmp 2]) (vs := [_]) rfl ⟨rfl, trivial⟩ ?_
      have e := compF_all (eq := eqI) (xs := ps) (k := ps.length) (Nat.le_refl _) (fun j h h1 h2 => hall j h h1 (by omega))
      rw [List.take_length] at e
      rw [e]
      exact ⟨_, _, rfl, rfl⟩

theorem compactI0_spec (H : View) : SatO Tryz.prog F2075 #[nilS] H [] (fun r _ q => r = nilS ∧ q = [row nilS T3 1 0 []]) := by
  refine enterO (n := 61) (args := [nilS]) Tryz.func109 rfl rfl rfl fun w0 => ?_
  refine K_seq ?_
  refine K_region ?_
  refine KV (R_assign rfl) rfl ?_
  refine K_nil ?_
  refine Q_then ?_
  refine K_seq ?_
  refine K_seq ?_
  refine K_region ?_
  refine KV (R_move rfl) rfl ?_
  refine KV (R_len sl25 rfl) rfl ?_
  refine KV (R_cmp rfl rfl rfl) rfl ?_
  refine K_nil ?_
  refine Q_then ?_
  refine K_if rfl (fun h0 => ?_) (fun h0 => ?_)
  ·
    refine K_seq ?_
    refine K_region ?_
    refine KV (R_move rfl) rfl ?_
    refine KV (R_assign rfl) rfl ?_
    refine K_nil ?_
    refine Q_then ?_
    refine K_ret ?_
    refine Q_then_ret ?_
    refine KQ_nilrow T3 1 ?_
    refine results_gen (rs := [.tmp 2]) (vs := [_]) rfl ⟨rfl, trivial⟩ ?_
    exact ⟨rfl, rfl⟩
  ·
    exact absurd (by omega) h0

theorem compactR_spec (ps : List (Rl × Value)) (v : Value) (H : View) (gf : Nat) (hct : callable Tryz.prog gf = true) (hps : ∀ p ∈ ps, RVok H p) (heq : ∀ H2 p q, VLe H H2 → RVok H2 p → RVok H2 q → Sat Tryz.prog gf ([] ++ [Value.agg (cellRV p).toArray, .agg (cellRV q).toArray] ++ []).toArray H2 (fun r _ => r = .bool (eqP p q))) (hl : ps.length ≤ 1099511627776) :
    SatO Tryz.prog F2073 #[v, .func (.func gf) #[] #[]] H [row v T85 3 ps.length (cellsP ps)] (fun r _ q => ∃ a cap, r = .slice a (compF eqP none ps).length cap ∧ q = [row r T85 3 (compF eqP none ps).length (cellsP (compF eqP none ps))]) := by
  refine SatO.openRow (fun h1 h2 h3 => ?_) (fun gb cap tail h1 h2 h3 h4 h5 => ?_)
  · have : ps = [] := List.eq_nil_of_length_eq_zero h2
    subst this h1
    refine (compactR0_spec gf H).mono' ?_
    rintro r _ q ⟨rfl, rfl⟩
    exact ⟨none, 0, rfl, rfl⟩
  · subst h1
    exact compactR1_spec ps gb cap tail H gf hct hps heq hl h2 h3 h5
theorem compactI_spec (ps : List Int) (v : Value) (H : View) (hl : ps.length ≤ 1099511627776) :
    SatO Tryz.prog F2075 #[v] H [row v T3 1 ps.length (ints ps)] (fun r _ q => ∃ a cap, r = .slice a (compF eqI none ps).length cap ∧ q = [row r T3 1 (compF eqI none ps).length (ints (compF eqI none ps))]) := by
  refine SatO.openRow (fun h1 h2 h3 => ?_) (fun gb cap tail h1 h2 h3 h4 h5 => ?_)
  · have : ps = [] := List.eq_nil_of_length_eq_zero h2
    subst this h1
    refine (compactI0_spec H).mono' ?_
    rintro r _ q ⟨rfl, rfl⟩
    exact ⟨none, 0, rfl, rfl⟩
  · subst h1
    rw [ints_flat] at h5 ⊢
    refine (compactI1_spec ps gb cap tail H hl h2 h3 h5).mono' ?_
    rintro r _ q ⟨a, cp, rfl, rfl⟩
    exact ⟨a, cp, rfl, by rw [ints_flat]⟩
end Go.Proofs.X

namespace Go.Proofs.X
open Go Pal Go.Proofs
attribute [local irreducible] Pal.KO Pal.KC Pal.KQ Pal.KD
theorem c45 : callable Tryz.prog F45 = true := by kernel_rfl
theorem c65 : callable Tryz.prog F65 = true := by kernel_rfl
theorem c2050 : callable Tryz.prog F2050 = true := by kernel_rfl
theorem sortR_spec (gf : Nat) (hg : callable Tryz.prog gf = true) (H : View)
    (hord : ∀ (r s : Rl) (v u : Value), RVok H (r, v) → RVok H (s, u) → Sat Tryz.prog gf #[.agg #[.int .i64 r.sym, v, .int .i64 r.to], .agg #[.int .i64 s.sym, u, .int .i64 s.to]] H (fun x _ => x = .int .i64 (ordR r s)))
    (ps : List (Rl × Value)) (hps : ∀ p ∈ ps, RVok H p) (v : Value) (hlen : ps.length ≤ 1099511627776) :
    SatO Tryz.prog F2072 #[v, .func (.func gf) #[] #[]] H [row v T85 3 ps.length (cellsP ps)] (fun r H' q => r = .tuple #[] ∧ H' = H ∧ ∃ ps', ps'.Perm ps ∧ ps'.Pairwise (fun x y => ¬ ltR y.1 x.1) ∧ q = [row v T85 3 ps'.length (cellsP ps')]) :=
  sortRules (P := Tryz.prog) Tryz.layR (fun w => ty85.run_isAgg w) (fun w => ty85.run_sizeOf w) gf hg H T85 hord ps hps v (by omega)
theorem sortI_spec (xs : List Int) (v : Value) (H : View) (hlen : xs.length ≤ 1099511627776) :
    SatO Tryz.prog F2039 #[v] H [row v T3 1 xs.length (ints xs)] (fun r H' q => r = .tuple #[] ∧ H' = H ∧ ∃ ys, ys.Perm xs ∧ ys.Pairwise (· ≤ ·) ∧ q = [row v T3 1 ys.length (ints ys)]) :=
  sortInts (P := Tryz.prog) Tryz.layI H T3 xs v (by omega)
theorem orderV_spec (H : View) (r s : Rl) (v u : Value) (h1 : RVok H (r, v)) (h2 : RVok H (s, u)) : Sat Tryz.prog F2050 #[.agg #[.int .i64 r.sym, v, .int .i64 r.to], .agg #[.int .i64 s.sym, u, .int .i64 s.to]] H (fun x _ => x = .int .i64 (ordR r s)) := by
  obtain ⟨a, cp, e⟩ := h1.1.shape
  obtain ⟨a2, cp2, e2⟩ := h2.1.shape
  dsimp only at e e2
  subst e e2
  exact order_spec r s a a2 cp cp2 H h1.1 h2.1 h1.2.1 h2.2.1

theorem eqO_spec (H : View) (p q : Rl × Value) (h1 : RVok H p) (h2 : RVok H q) : Sat Tryz.prog F2074 #[.agg (cellRV p).toArray, .agg (cellRV q).toArray] H (fun r _ => r = .bool (eqP p q)) := by
  refine enterO (n := 9) (args := [.agg (cellRV p).toArray, .agg (cellRV q).toArray]) Tryz.func107 rfl rfl rfl fun w0 => ?_
  refine K_seq ?_
  refine K_region ?_
  refine KA (A_box rfl) rfl fun b2 => ?_
  refine KA (A_box rfl) rfl fun b3 => ?_
  refine KV (R_assign rfl) rfl ?_
  refine K_nil ?_
  refine Q_then ?_
  refine K_seq ?_
  refine K_region ?_
  refine KV (R_loadW ty85 1 rfl rfl rfl rfl) rfl ?_
  refine KV (R_loadW ty85 0 rfl rfl rfl rfl) rfl ?_
  refine K_call c2050 rfl rfl (orderV_spec H p.1 q.1 p.2 q.2 h1 h2) ?_
  rintro _ V1 hv1 rfl
  refine KV (R_cmp rfl rfl rfl) rfl ?_
  refine KV (R_assign rfl) rfl ?_
  refine K_nil ?_
  refine Q_then ?_
  refine K_ret ?_
  refine results_gen (rs := [.tmp 4]) (vs := [_]) rfl ⟨rfl, trivial⟩ ?_
  rfl

theorem nclone_spec (a : Au) (vr vu vf : Value) (H : View) (ha : RepAu H a vr vu vf) : SatO Tryz.prog F2037 #[.agg #[vr, .int .i64 a.states, vu, vf]] H [] (fun r H' q => OwnAu H' T3 T85 a r q ∧ True) := by
  obtain ⟨ra, rcp, rfl⟩ := ha.r.shape
  obtain ⟨fa, fcp, rfl⟩ := ha.f.shape
  obtain ⟨ua, ucp, rfl⟩ := ha.ushape
  have hrl := ha.rl
  have hul := ha.ul
  have hfl := ha.fl
  refine enterO (n := 37) (args := [.agg #[.slice ra a.ranks.length rcp, .int .i64 a.states, .slice ua a.rules.length ucp, .slice fa a.final.length fcp]]) Tryz.func103 rfl rfl rfl fun w0 => ?_
  refine K_seq ?_
  refine K_region ?_
  refine KA (A_box rfl) rfl fun b1 => ?_
  refine KA (A_alloc z50) rfl fun b2 => ?_
  refine K_nil ?_
  refine Q_then ?_
  refine K_seq ?_
  refine K_regionD (fin := true) (R := [0, 1, 3, 4, 5, 6, 2, 7, 8, 9, 10]) (by kernel_rfl) mixed (.cons _ (.cons_cons _ (List.nil_sublist _))) ?_
  refine D_val rfl rfl rfl (R_fieldAddr 0 fd50_0 rfl) ?_
  refine D_val rfl rfl rfl (R_loadO ty47 0 rfl rfl rfl rfl (fun _ => rfl) rfl) ?_
  refine D_val rfl rfl rfl (R_fieldAddr 1 fd50_1 rfl) ?_
  refine D_val rfl rfl rfl (R_loadO ty3 0 rfl rfl rfl rfl (fun _ => rfl) rfl) ?_
  refine D_val rfl rfl rfl (R_fieldAddr 3 fd50_3 rfl) ?_
  refine D_val rfl rfl rfl (R_loadO ty25 0 rfl rfl rfl rfl (fun _ => rfl) rfl) ?_
  refine D_call rfl rfl c45 rfl ⟨⟨1, rfl⟩, trivial⟩ (clone47_spec a.ranks _ H ha.r hrl) ?_
  rintro _ V0 hv0 hcr
  obtain ⟨ca, cc, rfl⟩ := hcr.shape
  refine D_callO (first := []) [] _ rfl rfl c65 rfl rfl (List.Perm.refl _) ⟨⟨1, rfl⟩, trivial⟩ (clone25o_spec [] a.final _ V0 (ha.mono hv0).f.1.rd hfl).rowshape ?_
  rintro _ V1 q13 hv1 ⟨f13, fc13, rfl, rfl⟩
  dsimp only [List.cons_append, List.nil_append]
  refine D_val rfl rfl rfl (R_build z50 pl50 rfl rfl) ?_
  refine D_alloc rfl rfl rfl (A_alloc z50) fun b3 => ?_
  refine D_lastStore ty50 0 rfl rfl rfl rfl rfl rfl rfl rfl ?_
  refine Q_then ?_
  refine K_seq ?_
  refine K_seq ?_
  refine K_region ?_
  refine KV (R_fieldAddr 2 fd50_2 rfl) rfl ?_
  refine KV (R_loadO ty48 3 rfl rfl rfl rfl (fun _ => rfl) rfl) rfl ?_
  refine KV (R_len sl48 rfl) rfl ?_
  refine KV (R_move rfl) rfl ?_
  refine K_nil ?_
  refine Q_then ?_
  refine K_block ?_
  refine K_nilrow T85 3 ?_
  refine KC_many_nil ?_
  refine K_loopD (G := Nat × View × Value × (List (Rl × Value))) [5, 18, 19, 20, 21, 22, 23, 24, 25, 26, 27, 28, 29, 30, 31, 32, 33, 34, 35] (fun g => [(18, .int .i64 (g.1 : Int))]) (fun hl g => (((hl.set 0 (many (rowsFrom T3 g.2.2.2))).set 1 (row g.2.2.1 T85 3 g.1 (cellsP g.2.2.2))).set 2 (blk b3 (.cells #[.slice ca a.ranks.length cc, .int .i64 a.states, g.2.2.1, .slice f13 a.final.length fc13] T50 (0, 0))))) (fun g => g.2.1) (fun g => (g.1 ≤ a.rules.length) ∧ (VLe V1 g.2.1) ∧ (g.2.2.2.map (·.1) = a.rules.take g.1) ∧ (∃ ad cp, g.2.2.1 = .slice ad g.1 cp)) (fun g => a.rules.length - g.1) (0, V1, nilS, []) ⟨Nat.zero_le _, VLe.refl _, rfl, none, 0, rfl⟩ ⟨rfl, trivial⟩ (by simp only [args0, Nat.reduceAdd, del, memN, beqN, Nat.reduceBEq, cond_true, cond_false]; rfl) rfl rfl ?_
  rintro ⟨k, V, w, ps⟩ ⟨hk, hV, hps, hw⟩
  dsimp only at hk hV hps hw
  dsimp only [List.set, List.cons_append, List.nil_append]
  obtain ⟨wa, wcp, rfl⟩ := hw
  refine K_seq ?_
  refine K_region ?_
  refine KV (R_cmp rfl rfl rfl) rfl ?_
  refine K_nil ?_
  refine Q_then ?_
  refine K_seq ?_
  refine K_if rfl (fun h19 => ?_) (fun h19 => ?_)
  ·
    have hk' : k < a.rules.length := by omega
    obtain ⟨ub, uo, ucp2, xa, xcp, hue, hrc, hsr, hsym, hto, hxl⟩ := (ha.mono (hv0.trans (hv1.trans hV))).rule hk'
    cases hue
    refine K_skip ?_
    refine Q_then ?_
    refine K_seq ?_
    refine K_block ?_
    refine K_seq ?_
    refine K_region ?_
    refine KV (R_indexN sl48 ty85 rfl rfl (by omega)) rfl ?_
    refine KV (R_loadH ty85 rfl (hrc) rfl (fun e => by cases e) rfl) rfl ?_
    refine KA (A_alloc z85) rfl fun b5 => ?_
    refine K_storeW ty85 0 rfl rfl rfl rfl rfl rfl rfl ?_
    refine K_nil ?_
    refine Q_then ?_
    refine K_regionD (fin := true) (R := [0, 1, 2, 3, 4, 5, 7, 8, 6, 9, 10, 11, 12, 13]) (by kernel_rfl) mixed (.cons_cons _ (.cons _ (.cons _ (.cons_cons _ (.cons _ (.cons _ (.cons_cons _ (List.nil_sublist _)))))))) ?_
    refine D_val rfl rfl rfl (R_fieldAddr 2 fd50_2 rfl) ?_
    refine D_val rfl rfl rfl (R_loadO ty48 1 rfl rfl rfl rfl (fun _ => rfl) rfl) ?_
    refine D_val rfl rfl rfl (R_fieldAddr 0 fd85_0 rfl) ?_
    refine D_val rfl rfl rfl (R_loadO ty3 0 rfl rfl rfl rfl (fun _ => rfl) rfl) ?_
    refine D_val rfl rfl rfl (R_fieldAddr 1 fd85_1 rfl) ?_
    refine D_val rfl rfl rfl (R_loadO ty25 0 rfl rfl rfl rfl (fun _ => rfl) rfl) ?_
    refine D_val rfl rfl rfl (R_fieldAddr 2 fd85_2 rfl) ?_
    refine D_val rfl rfl rfl (R_loadO ty3 0 rfl rfl rfl rfl (fun _ => rfl) rfl) ?_
    refine D_callO (first := []) [] _ rfl rfl c65 rfl rfl (List.Perm.refl _) ⟨⟨0, rfl⟩, ⟨3, rfl⟩, ⟨6, rfl⟩, trivial⟩ (clone25o_spec [] a.rules[k].args _ V hsr.1.rd hxl).rowshape ?_
    rintro _ U q28 hU ⟨f28, fc28, rfl, rfl⟩
    dsimp only [List.cons_append, List.nil_append]
    refine D_val rfl rfl rfl (R_build z85 pl85 rfl rfl) ?_
    refine D_alloc rfl rfl rfl (A_buildSlice (vs := [.agg #[.int .i64 a.rules[k].sym, .slice f28 a.rules[k].args.length fc28, .int .i64 a.rules[k].to]]) sl48 ty85 z85 rfl rfl (by simp [Value.cells]) (by simp) rfl (by decide)) fun b32 => ?_
    refine D_append1 3 ap48 rfl rfl rfl rfl rfl rfl ⟨⟨1, rfl⟩, ⟨3, rfl⟩, ⟨6, rfl⟩, trivial⟩ rfl rfl ⟨by omega, by omega⟩ fun a33 k33 hn33 => ?_
    refine D_val rfl rfl rfl (R_fieldAddr 2 fd50_2 rfl) ?_
    refine D_lastStore ty48 4 rfl rfl rfl rfl rfl rfl rfl rfl ?_
    refine KQ_front 3 rfl ?_
    refine KQ_front 2 rfl ?_
    refine KQ_many_snoc ?_
    dsimp only [List.eraseIdx]
    refine Q_block ?_
    refine Q_then ?_
    refine K_region ?_
    refine KV (R_add rfl rfl (by omega)) rfl ?_
    refine KV (R_move rfl) rfl ?_
    refine K_nil ?_
    refine KQ_sel [0, 0, 1, 1, 1, 1] rfl ?_
    refine Q_nextD (k + 1, U, .slice a33 (k + 1) k33, ps ++ [(a.rules[k], .slice f28 a.rules[k].args.length fc28)]) ⟨hk', hV.trans hU, by rw [List.take_succ_eq_append_getElem hk', List.map_append, hps]; rfl, _, _, rfl⟩ (by (try dsimp only); omega) ⟨rfl, trivial⟩ rfl (by dsimp only [List.set]; rw [rowsFrom_snoc, cellsP_snoc]; rfl) rfl
  ·
    have hk' : k = a.rules.length := by omega
    subst hk'
    rw [List.take_length] at hps
    have hpl : ps.length = a.rules.length := by rw [← hps]; simp
    refine K_exit ?_
    refine Q_then_exit ?_
    refine Q_then_exit ?_
    refine Q_block_exit ?_
    refine Q_then ?_
    refine K_seq ?_
    refine K_region ?_
    refine KV (R_loadO ty50 2 rfl rfl rfl rfl (fun e => by cases e) rfl) rfl ?_
    refine K_store ty50 4 rfl rfl rfl rfl rfl rfl ?_
    refine K_nil ?_
    refine Q_then ?_
    refine K_ret ?_
    refine results_sel [1, 2, 0] rfl (rs := [.cell 2 48]) (vs := [_]) rfl ⟨⟨_, _, _, _, _, _, 4, rfl, rfl, ty50, (fun e => by cases e), rfl, rfl⟩, trivial⟩ ?_
    refine ⟨⟨_, wa, wcp, f13, fc13, ps, ?_, hcr.mono (hv1.trans hV), hps, ?_⟩, trivial⟩
    · rw [hpl]; rfl
    · rw [hpl]
end Go.Proofs.X

namespace Go.Proofs.X
open Go Pal Go.Proofs
attribute [local irreducible] Pal.KO Pal.KC Pal.KQ Pal.KD
theorem c2037 : callable Tryz.prog F2037 = true := by kernel_rfl
theorem c2039 : callable Tryz.prog F2039 = true := by kernel_rfl
theorem c2072 : callable Tryz.prog F2072 = true := by kernel_rfl
theorem c2073 : callable Tryz.prog F2073 = true := by kernel_rfl
theorem c2074 : callable Tryz.prog F2074 = true := by kernel_rfl
theorem c2075 : callable Tryz.prog F2075 = true := by kernel_rfl
theorem sortOwn_spec (ps : List (Rl × Value)) (hb : ∀ p ∈ ps, RlB p.1) (v : Value) (H : View) (hlen : ps.length ≤ 1099511627776) :
    SatO Tryz.prog F2072 #[v, .func (.func F2050) #[] #[]] H [row v T85 3 ps.length (cellsP ps), many (rowsFrom T3 ps)] (fun r H' q => r = .tuple #[] ∧ H' = H ∧ ∃ ps', ps'.Perm ps ∧ ps'.Pairwise (fun x y => ¬ ltR y.1 x.1) ∧ q = [row v T85 3 ps'.length (cellsP ps'), many (rowsFrom T3 ps')]) := by
  have h := SatO.lend (P := Tryz.prog) (f := F2072) (args := #[v, .func (.func F2050) #[] #[]]) (H := H) (hl := [row v T85 3 ps.length (cellsP ps)]) [many (rowsFrom T3 ps)]
    (post := fun r q => r = .tuple #[] ∧ ∃ ps', ps'.Perm ps ∧ ps'.Pairwise (fun x y => ¬ ltR y.1 x.1) ∧ q = [row v T85 3 ps'.length (cellsP ps')])
    (fun H2 _ hh => (sortR_spec F2050 c2050 H2 (orderV_spec H2) ps (rv_of_many (hh _ (List.mem_cons_self ..)) hb) v hlen).mono' (fun _ _ _ h => ⟨h.1, h.2.2⟩))
  intro w hw
  refine Calls.mono (h w hw) ?_
  rintro e w' ⟨r, H', q, rfl, hok, rfl, q', rfl, rfl, ps', hp, hs, rfl⟩
  refine ⟨_, H', _, rfl, ?_, rfl, rfl, ps', hp, hs, rfl⟩
  have h2 : Ok _ w' H' (many (rowsFrom T3 ps) :: [row v T85 3 ps'.length (cellsP ps')]) := hok.perm (List.Perm.swap _ _ _)
  exact (h2.many_perm (p' := rowsFrom T3 ps') (hp.symm.map _)).perm (List.Perm.swap _ _ _)
theorem compactOwn_spec (gf : Nat) (hct : callable Tryz.prog gf = true) (heq : ∀ (H : View) (p q : Rl × Value), RVok H p → RVok H q → Sat Tryz.prog gf #[.agg (cellRV p).toArray, .agg (cellRV q).toArray] H (fun r _ => r = .bool (eqP p q))) (ps : List (Rl × Value)) (hb : ∀ p ∈ ps, RlB p.1) (v : Value) (H : View) (hlen : ps.length ≤ 1099511627776) :
    SatO Tryz.prog F2073 #[v, .func (.func gf) #[] #[]] H [row v T85 3 ps.length (cellsP ps), many (rowsFrom T3 ps)] (fun r H' q => H' = H ∧ ∃ a cap, r = .slice a (compF eqP none ps).length cap ∧ q = [row r T85 3 (compF eqP none ps).length (cellsP (compF eqP none ps)), many (rowsFrom T3 (compF eqP none ps))]) := by
  have h := SatO.lend (P := Tryz.prog) (f := F2073) (args := #[v, .func (.func gf) #[] #[]]) (H := H) (hl := [row v T85 3 ps.length (cellsP ps)]) [many (rowsFrom T3 ps)]
    (post := fun r q => ∃ a cap, r = .slice a (compF eqP none ps).length cap ∧ q = [row r T85 3 (compF eqP none ps).length (cellsP (compF eqP none ps))])
    (fun H2 _ hh => compactR_spec ps v H2 gf hct (rv_of_many (hh _ (List.mem_cons_self ..)) hb) (fun H3 p q _ h1 h2 => heq H3 p q h1 h2) hlen)
  intro w hw
  refine Calls.mono (h w hw) ?_
  rintro e w' ⟨r, H', q, rfl, hok, rfl, q', rfl, a, cap, rfl, rfl⟩
  refine ⟨_, H', _, rfl, ?_, rfl, a, cap, rfl, rfl⟩
  have h2 : Ok _ w' H' (many (rowsFrom T3 ps) :: [row (.slice a (compF eqP none ps).length cap) T85 3 (compF eqP none ps).length (cellsP (compF eqP none ps))]) := hok.perm (List.Perm.swap _ _ _)
  exact (h2.many_sub (p' := rowsFrom T3 (compF eqP none ps)) ((compF_sublist eqP none ps).map _)).perm (List.Perm.swap _ _ _)

theorem sorted_spec (a : Au) (vr vu vf : Value) (H : View) (ha : RepAu H a vr vu vf) : SatO Tryz.prog F2045 #[.agg #[vr, .int .i64 a.states, vu, vf]] H [] (fun r H' q => OwnAu H' T3 T85 (normA a) r q ∧ True) := by
  obtain ⟨ra, rcp, rfl⟩ := ha.r.shape
  obtain ⟨fa, fcp, rfl⟩ := ha.f.shape
  obtain ⟨ua, ucp, rfl⟩ := ha.ushape
  have hab := ha.b
  have hul := ha.ul
  have hfl := ha.fl
  refine enterO (n := 20) (args := [.agg #[.slice ra a.ranks.length rcp, .int .i64 a.states, .slice ua a.rules.length ucp, .slice fa a.final.length fcp]]) Tryz.func80 rfl rfl rfl fun w0 => ?_
  refine K_seq ?_
  refine K_region ?_
  refine KA (A_box rfl) rfl fun b1 => ?_
  refine KA (A_alloc z50) rfl fun b2 => ?_
  refine K_nil ?_
  refine Q_then ?_
  refine K_seq ?_
  refine K_region ?_
  refine KV (R_loadW ty50 1 rfl rfl rfl rfl) rfl ?_
  refine K_callO (first := []) [] _ (List.Perm.refl _) c2037 rfl rfl rfl (nclone_spec a _ _ _ H ha) ?_
  rintro _ V1 q hv1 ⟨⟨xr, ua2, uc2, fa2, fc2, ps, rfl, hxr, hps, rfl⟩, _⟩
  dsimp only [List.cons_append, List.nil_append]
  obtain ⟨xa, xc, rfl⟩ := hxr.shape
  have hpl : ps.length = a.rules.length := by rw [← hps]; simp
  have hpb : ∀ p ∈ ps, RlB p.1 := fun p hp => hab.u p.1 (by rw [← hps]; exact List.mem_map.2 ⟨p, hp, rfl⟩)
  refine K_storeW ty50 4 rfl rfl rfl rfl rfl rfl rfl ?_
  refine K_nil ?_
  refine Q_then ?_
  refine K_seq ?_
  refine K_region ?_
  refine KV (R_fieldAddr 2 fd50_2 rfl) rfl ?_
  refine KV (R_loadO ty48 4 rfl rfl rfl rfl (fun _ => rfl) rfl) rfl ?_
  refine KO_sel [0, 1, 0, 0, 0] rfl ?_
  refine K_callO (first := []) [_, _] _ (List.Perm.refl _) c2072 rfl rfl rfl (sortOwn_spec ps hpb _ V1 (by omega)) ?_
  rintro _ V2 q hv2 ⟨rfl, rfl, ps2, hp2, hs2, rfl⟩
  dsimp only [List.cons_append, List.nil_append]
  have hpb2 : ∀ p ∈ ps2, RlB p.1 := fun p hp => hpb p (hp2.mem_iff.1 hp)
  have hpl2 : ps2.length = ps.length := hp2.length_eq
  refine K_nil ?_
  refine Q_then ?_
  refine K_seq ?_
  refine K_region ?_
  refine KV (R_fieldAddr 2 fd50_2 rfl) rfl ?_
  refine KV (R_loadO ty48 4 rfl rfl rfl rfl (fun _ => rfl) rfl) rfl ?_
  refine K_callO (first := []) [_, _] _ (List.Perm.refl _) c2073 rfl rfl rfl (by rw [← hpl2]; exact compactOwn_spec F2074 c2074 eqO_spec ps2 hpb2 _ V2 (by omega)) ?_
  rintro _ V3 q hv3 ⟨rfl, ua3, uc3, rfl, rfl⟩
  dsimp only [List.cons_append, List.nil_append]
  have hps3 : (compF eqP none ps2).map (·.1) = sortO a.rules := by
    rw [comp_rules hs2, ← hps]
    exact sortO_congr fun x => (hp2.map _).mem_iff
  have hpl3 := congrArg List.length hps3
  rw [List.length_map] at hpl3
  refine KV (R_fieldAddr 2 fd50_2 rfl) rfl ?_
  refine K_store ty48 4 rfl rfl rfl rfl rfl rfl ?_
  refine K_nil ?_
  refine Q_then ?_
  refine K_seq ?_
  refine K_region ?_
  refine KV (R_fieldAddr 3 fd50_3 rfl) rfl ?_
  refine KV (R_loadO ty25 4 rfl rfl rfl rfl (fun _ => rfl) rfl) rfl ?_
  refine KO_sel [2, 0, 0, 0, 0] rfl ?_
  refine K_callO (first := []) [_] _ (List.Perm.refl _) c2039 rfl rfl rfl (sortI_spec a.final _ V3 (by omega)) ?_
  rintro _ V4 q hv4 ⟨rfl, rfl, fs, hf1, hf2, rfl⟩
  dsimp only [List.cons_append, List.nil_append]
  have hfl2 : fs.length = a.final.length := hf1.length_eq
  refine K_nil ?_
  refine Q_then ?_
  refine K_seq ?_
  refine K_region ?_
  refine KV (R_fieldAddr 3 fd50_3 rfl) rfl ?_
  refine KV (R_loadO ty25 4 rfl rfl rfl rfl (fun _ => rfl) rfl) rfl ?_
  refine K_callO (first := []) [_] _ (List.Perm.refl _) c2075 rfl rfl rfl (by rw [← hfl2]; exact compactI_spec fs _ V4 (by omega)) ?_
  rintro _ V5 q hv5 ⟨fa3, fc3, rfl, rfl⟩
  dsimp only [List.cons_append, List.nil_append]
  have hfs : compF eqI none fs = sortI a.final := (comp_ints hf2).trans (sortI_congr fun x => hf1.mem_iff)
  rw [hfs]
  refine KV (R_fieldAddr 3 fd50_3 rfl) rfl ?_
  refine K_store ty25 4 rfl rfl rfl rfl rfl rfl ?_
  refine K_nil ?_
  refine Q_then ?_
  refine K_seq ?_
  refine K_region ?_
  refine KV (R_loadW ty50 4 rfl rfl rfl rfl) rfl ?_
  refine K_storeW ty50 3 rfl rfl rfl rfl rfl rfl rfl ?_
  refine K_nil ?_
  refine Q_then ?_
  refine K_ret ?_
  refine results_sel [1, 0, 0] rfl (rs := [.cell 2 48]) (vs := [_]) rfl ⟨⟨_, _, _, _, _, _, 3, rfl, rfl, ty50, (fun e => by cases e), rfl, rfl⟩, trivial⟩ ?_
  refine ⟨⟨_, ua3, uc3, fa3, fc3, compF eqP none ps2, ?_, hxr.mono hv5, hps3, ?_⟩, trivial⟩
  · rw [hpl3]; rfl
  · rfl
end Go.Proofs.X

namespace Go.Proofs.X
open Go Pal Go.Proofs
attribute [local irreducible] Pal.KO Pal.KC Pal.KQ Pal.KD

theorem sortedP_spec (a : Au) (vr vu vf : Value) (H : View) (ha : RepAu H a vr vu vf) : SatO Tryz.prog F2045 #[.agg #[vr, .int .i64 a.states, vu, vf]] H [] (fun r H' q => q = [] ∧ (∃ v1 v2 v3, r = .agg #[v1, .int .i64 a.states, v2, v3] ∧ RepAu H' (normA a) v1 v2 v3) ∧ True) :=
  SatO.pub_au (a := normA a) ha.b.norm (sorted_spec a vr vu vf H ha)
end Go.Proofs.X

namespace Go.Proofs.X
open Go Pal Go.Proofs
attribute [local irreducible] Pal.KO Pal.KC Pal.KQ Pal.KD

theorem mulW_spec (xs ys : List Nat) (v w : Value) (H : View) (hv : UW H v xs) (hw : UW H w ys) (hlx : xs.length ≤ 1048576) (hly : ys.length ≤ 1048576) : Sat Tryz.prog F2036 #[.agg #[v], .agg #[w]] H (fun r H' => ∃ xa k cp, r = .agg #[.slice xa k cp] ∧ RepN H' (.slice xa k cp) (valW xs * valW ys)) := by
  obtain ⟨a, cp, rfl⟩ := hv.shape
  obtain ⟨a2, cp2, rfl⟩ := hw.shape
  refine enterO (n := 73) (args := [.agg #[.slice a xs.length cp], .agg #[.slice a2 ys.length cp2]]) Tryz.func54 rfl rfl rfl fun w0 => ?_
  refine K_seq ?_
  refine K_region ?_
  refine KA (A_box rfl) rfl fun b2 => ?_
  refine KA (A_box rfl) rfl fun b3 => ?_
  refine KA (A_alloc z2009) rfl fun b4 => ?_
  refine K_nil ?_
  refine Q_then ?_
  refine K_seq ?_
  refine K_region ?_
  refine KV (R_fieldAddr 0 fd2009_0 rfl) rfl ?_
  refine KV (R_loadO ty2007 2 rfl rfl rfl rfl (fun _ => rfl) rfl) rfl ?_
  refine KV (R_len sl2007 rfl) rfl ?_
  refine KV (R_fieldAddr 0 fd2009_0 rfl) rfl ?_
  refine KV (R_loadO ty2007 1 rfl rfl rfl rfl (fun _ => rfl) rfl) rfl ?_
  refine KV (R_len sl2007 rfl) rfl ?_
  refine KV (R_add rfl rfl (by omega)) rfl ?_
  rw [show (xs.length : Int) + (ys.length : Int) = ((xs.length + ys.length : Nat) : Int) by omega]
  refine KA (A_makeSlice (k := xs.length + ys.length) ap2007 z164 ty164 rfl rfl (by omega) (by omega)) rfl fun b19 => ?_
  refine KV (R_assign rfl) rfl ?_
  refine K_nil ?_
  rw [show madeCells (Value.int .u32 0).cells ((xs.length + ys.length) * 1) = _ from words_made _]
  refine Q_then ?_
  refine K_seq ?_
  refine K_seq ?_
  refine K_region ?_
  refine KV (R_fieldAddr 0 fd2009_0 rfl) rfl ?_
  refine KV (R_loadO ty2007 3 rfl rfl rfl rfl (fun _ => rfl) rfl) rfl ?_
  refine KV (R_len sl2007 rfl) rfl ?_
  refine KV (R_move rfl) rfl ?_
  refine K_nil ?_
  refine Q_then ?_
  refine K_block ?_
  refine K_loopD (G := Nat × List Nat) [6, 7, 8, 9, 10, 11, 23, 24, 25, 26, 27, 28, 29, 30, 31, 32, 33, 34, 35, 36, 37, 38, 39, 40, 41, 42, 43, 44, 45, 46, 47, 48, 49, 50, 51, 52, 53, 54, 55, 56, 57, 58, 59, 60, 61, 62, 63, 64, 65, 66, 67, 68, 69, 70] (fun g => [(23, .int .i64 (g.1 : Int))]) (fun hl g => (hl.set 0 (blk b19 (.cells (words g.2).toArray T164 (0, 0))))) (fun g => H) (fun g => (g.1 ≤ xs.length) ∧ (MulI xs ys g.2 g.1 0 0)) (fun g => xs.length - g.1) (0, List.replicate (xs.length + ys.length) 0) ⟨Nat.zero_le _, MulI.start xs ys⟩ ⟨rfl, trivial⟩ (by simp only [args0, Nat.reduceAdd, del, memN, beqN, Nat.reduceBEq, cond_true, cond_false]; rfl) rfl rfl ?_
  rintro ⟨i, os⟩ ⟨hi, hM⟩
  dsimp only at hi hM
  dsimp only [List.set, List.cons_append, List.nil_append]
  have hol := hM.len
  refine K_seq ?_
  refine K_region ?_
  refine KV (R_cmp rfl rfl rfl) rfl ?_
  refine K_nil ?_
  refine Q_then ?_
  refine K_seq ?_
  refine K_if rfl (fun h24 => ?_) (fun h24 => ?_)
  ·
    have hi' : i < xs.length := by omega
    obtain ⟨xb, xo, hxe, hxa⟩ := hv.get hi'
    cases hxe
    have hxl := hv.2 _ (List.getElem_mem hi')
    refine K_skip ?_
    refine Q_then ?_
    refine K_seq ?_
    refine K_block ?_
    refine K_seq ?_
    refine K_region ?_
    refine KV (R_move rfl) rfl ?_
    refine KV (R_indexN sl2007 ty164 rfl rfl (by omega)) rfl ?_
    refine KV (R_loadH ty164 rfl (hxa) rfl (fun _ => rfl) rfl) rfl ?_
    refine KV (R_assign rfl) rfl ?_
    refine KV (R_assign rfl) rfl ?_
    refine K_nil ?_
    refine Q_then ?_
    refine K_seq ?_
    refine K_region ?_
    refine KV (R_assign rfl) rfl ?_
    refine K_nil ?_
    refine Q_then ?_
    refine K_seq ?_
    refine K_seq ?_
    refine K_region ?_
    refine KV (R_fieldAddr 0 fd2009_0 rfl) rfl ?_
    refine KV (R_loadO ty2007 2 rfl rfl rfl rfl (fun _ => rfl) rfl) rfl ?_
    refine KV (R_len sl2007 rfl) rfl ?_
    refine KV (R_move rfl) rfl ?_
    refine K_nil ?_
    refine Q_then ?_
    refine K_block ?_
    refine K_loopD (G := Nat × Nat × List Nat) [8, 9, 10, 11, 31, 32, 33, 34, 35, 36, 37, 38, 39, 40, 41, 42, 43, 44, 45, 46, 47, 48, 49, 50, 51, 52, 53, 54, 55, 56, 57, 58, 59, 60] (fun g => [(31, .int .i64 (g.1 : Int)), (8, .int .u64 (g.2.1 : Int))]) (fun hl g => (hl.set 0 (blk b19 (.cells (words g.2.2).toArray T164 (0, 0))))) (fun g => H) (fun g => (g.1 ≤ ys.length) ∧ (MulI xs ys g.2.2 i g.1 g.2.1)) (fun g => ys.length - g.1) (0, 0, os) ⟨Nat.zero_le _, hM⟩ ⟨rfl, rfl, trivial⟩ (by simp only [args0, Nat.reduceAdd, del, memN, beqN, Nat.reduceBEq, cond_true, cond_false]; rfl) rfl rfl ?_
    rintro ⟨k, c, os2⟩ ⟨hk, hM2⟩
    dsimp only at hk hM2
    dsimp only [List.set, List.cons_append, List.nil_append]
    have hol2 := hM2.len
    have hcl := hM2.cl
    refine K_seq ?_
    refine K_region ?_
    refine KV (R_cmp rfl rfl rfl) rfl ?_
    refine K_nil ?_
    refine Q_then ?_
    refine K_seq ?_
    refine K_if rfl (fun h32 => ?_) (fun h32 => ?_)
    ·
      have hk' : k < ys.length := by omega
      obtain ⟨yb, yo, hye, hya⟩ := hw.get hk'
      cases hye
      have hyl := hw.2 _ (List.getElem_mem hk')
      have hj : i + k < os2.length := by omega
      obtain ⟨hs64, hMs⟩ := hM2.step hv.2 hw.2 hi' hk' hj
      have hsh : (xs[i] * ys[k] + os2[i + k] + c) / 2 ^ 32 = (xs[i] * ys[k] + os2[i + k] + c) / 4294967296 := rfl
      refine K_skip ?_
      refine Q_then ?_
      refine K_seq ?_
      refine K_block ?_
      refine K_seq ?_
      refine K_region ?_
      refine KV (R_move rfl) rfl ?_
      refine KV (R_indexN sl2007 ty164 rfl rfl (by omega)) rfl ?_
      refine KV (R_loadH ty164 rfl (hya) rfl (fun _ => rfl) rfl) rfl ?_
      refine KV (R_assign rfl) rfl ?_
      refine KV (R_assign rfl) rfl ?_
      refine K_nil ?_
      refine Q_then ?_
      refine K_seq ?_
      refine K_region ?_
      refine KV (R_move rfl) rfl ?_
      refine KV (R_convII (by kernel_rfl) ⟨_, Tryz.underlying102⟩ rfl (IntWalk.u64_in ((xs[i] : Nat) : Int) (by omega))) rfl ?_
      refine KV (R_move rfl) rfl ?_
      refine KV (R_convII (by kernel_rfl) ⟨_, Tryz.underlying102⟩ rfl (IntWalk.u64_in ((ys[k] : Nat) : Int) (by omega))) rfl ?_
      refine KV (R_arith (r := ((xs[i] * ys[k] : Nat) : Int)) rfl rfl (.inr (.inr ⟨rfl, by rw [IntWalk.u64_in _ (by constructor <;> omega)]; omega⟩))) rfl ?_
      refine KV (R_move rfl) rfl ?_
      refine KV (R_move rfl) rfl ?_
      refine KV (R_move rfl) rfl ?_
      refine KV (R_add rfl rfl (by omega)) rfl ?_
      refine KV (R_indexN (i := i + k) sl2007 ty164 rfl (by show some _ = some _; congr 2) (by omega)) rfl ?_
      refine KV (R_loadC ty164 0 rfl rfl (by simp [words, hj] : ((words os2).toArray)[(0 + (i + k) * 1)]? = some (.int .u32 (os2[i + k] : Int)))) rfl ?_
      refine KV (R_convII (by kernel_rfl) ⟨_, Tryz.underlying102⟩ rfl (IntWalk.u64_in ((os2[i + k] : Nat) : Int) (by omega))) rfl ?_
      refine KV (R_arith (r := ((xs[i] * ys[k] + os2[i + k] : Nat) : Int)) rfl rfl (.inl ⟨rfl, by rw [IntWalk.u64_in _ (by omega)]; omega⟩)) rfl ?_
      refine KV (R_move rfl) rfl ?_
      refine KV (R_arith (r := ((xs[i] * ys[k] + os2[i + k] + c : Nat) : Int)) rfl rfl (.inl ⟨rfl, by rw [IntWalk.u64_in _ (by omega)]; omega⟩)) rfl ?_
      refine KV (R_assign rfl) rfl ?_
      refine K_nil ?_
      refine Q_then ?_
      refine K_region ?_
      refine KV (R_move rfl) rfl ?_
      refine KV (R_move rfl) rfl ?_
      refine KV (R_move rfl) rfl ?_
      refine KV (R_add rfl rfl (by omega)) rfl ?_
      refine KV (R_move rfl) rfl ?_
      refine KV (R_convII (by kernel_rfl) ⟨_, Tryz.underlying66⟩ rfl (r := (((xs[i] * ys[k] + os2[i + k] + c) % 4294967296 : Nat) : Int)) (by rw [IntKind.wrap_u32]; omega)) rfl ?_
      refine KV (R_move rfl) rfl ?_
      refine KV (R_shrU (k := 32) rfl rfl (by decide)) rfl ?_
      refine KV (R_indexN (i := i + k) sl2007 ty164 rfl (by show some _ = some _; congr 2) (by omega)) rfl ?_
      refine K_storeE ty164 0 rfl rfl rfl rfl (by simp [words, Value.cells]; omega) rfl (words_put (j := i + k) (by omega) (by omega)) ?_
      refine KV (R_assign rfl) rfl ?_
      refine K_nil ?_
      refine Q_block ?_
      refine Q_then ?_
      refine K_region ?_
      refine KV (R_add rfl rfl (by omega)) rfl ?_
      refine KV (R_move rfl) rfl ?_
      refine K_nil ?_
      refine Q_nextD (k + 1, (xs[i] * ys[k] + os2[i + k] + c) / 4294967296, os2.set (i + k) ((xs[i] * ys[k] + os2[i + k] + c) % 4294967296)) ⟨by dsimp only; omega, hMs⟩ (by (try dsimp only); omega) ⟨rfl, rfl, trivial⟩ rfl rfl rfl
    ·
      have hk' : k = ys.length := by omega
      subst hk'
      have hMn := hM2.next hi'
      refine K_exit ?_
      refine Q_then_exit ?_
      refine Q_then_exit ?_
      refine Q_block_exit ?_
      refine Q_then ?_
      refine K_region ?_
      refine KV (R_move rfl) rfl ?_
      refine KV (R_move rfl) rfl ?_
      refine KV (R_fieldAddr 0 fd2009_0 rfl) rfl ?_
      refine KV (R_loadO ty2007 2 rfl rfl rfl rfl (fun _ => rfl) rfl) rfl ?_
      refine KV (R_len sl2007 rfl) rfl ?_
      refine KV (R_add rfl rfl (by omega)) rfl ?_
      refine KV (R_move rfl) rfl ?_
      refine KV (R_convII (by kernel_rfl) ⟨_, Tryz.underlying66⟩ rfl (r := ((c : Nat) : Int)) (by rw [IntKind.wrap_u32]; omega)) rfl ?_
      refine KV (R_indexN (i := i + ys.length) sl2007 ty164 rfl (by show some _ = some _; congr 2) (by omega)) rfl ?_
      refine K_storeE ty164 0 rfl rfl rfl rfl (by simp [words, Value.cells]; omega) rfl (words_put (j := i + ys.length) (by omega) (by omega)) ?_
      refine K_nil ?_
      refine Q_block ?_
      refine Q_then ?_
      refine K_region ?_
      refine KV (R_add rfl rfl (by omega)) rfl ?_
      refine KV (R_move rfl) rfl ?_
      refine K_nil ?_
      refine Q_nextD (i + 1, os2.set (i + ys.length) c) ⟨hi', hMn⟩ (by (try dsimp only); omega) ⟨rfl, trivial⟩ rfl rfl rfl
  ·
    have hi' : i = xs.length := by omega
    subst hi'
    have hval := hM.done rfl
    refine K_exit ?_
    refine Q_then_exit ?_
    refine Q_then_exit ?_
    refine Q_block_exit ?_
    refine Q_then ?_
    refine K_seq ?_
    refine K_region ?_
    refine KV (R_move rfl) rfl ?_
    refine KO_front 0 rfl ?_
    refine KO_pubF fun U hU hb19 => ?_
    try dsimp only [List.eraseIdx]
    have hcall := trimW_spec os (some ⟨b19, 0, none⟩) (xs.length + ys.length) U ⟨⟨_, _, rfl, .inr ⟨b19, 0, rfl, At.of hb19⟩⟩, hM.ok⟩ (by omega) (by omega)
    rw [hol] at hcall
    refine K_call c2047 rfl rfl hcall ?_
    rintro _ V1 hv1 ⟨xa, k, rfl, hN⟩
    rw [hval] at hN
    refine K_store ty2009 0 rfl rfl rfl rfl rfl rfl ?_
    refine K_nil ?_
    refine Q_then ?_
    refine K_ret ?_
    refine results_gen (rs := [.cell 4 31]) (vs := [_]) rfl ⟨⟨_, _, _, _, _, _, 0, rfl, rfl, ty2009, (fun e => by cases e), rfl, rfl⟩, trivial⟩ ?_
    exact ⟨_, _, _, rfl, hN⟩

theorem addNN_spec (n m : Nat) (v w : Value) (H : View) (hv : RepN H v n) (hw : RepN H w m) (h1 : n < bigN) (h2 : m < bigN) : Sat Tryz.prog F2035 #[.agg #[v], .agg #[w]] H (fun r H' => ∃ xa k cp, r = .agg #[.slice xa k cp] ∧ RepN H' (.slice xa k cp) (n + m)) := by
  obtain ⟨xs, a1, rfl, a2⟩ := hv.words h1
  obtain ⟨ys, b1, rfl, b2⟩ := hw.words h2
  exact addN_spec xs ys v w H a1 b1 a2 b2
theorem mulNN_spec (n m : Nat) (v w : Value) (H : View) (hv : RepN H v n) (hw : RepN H w m) (h1 : n < bigN) (h2 : m < bigN) : Sat Tryz.prog F2036 #[.agg #[v], .agg #[w]] H (fun r H' => ∃ xa k cp, r = .agg #[.slice xa k cp] ∧ RepN H' (.slice xa k cp) (n * m)) := by
  obtain ⟨xs, a1, rfl, a2⟩ := hv.words h1
  obtain ⟨ys, b1, rfl, b2⟩ := hw.words h2
  exact mulW_spec xs ys v w H a1 b1 a2 b2
end Go.Proofs.X

namespace Go.Proofs.X
open Go Pal Go.Proofs
attribute [local irreducible] Pal.KO Pal.KC Pal.KQ Pal.KD

theorem sortedS_spec (a : Au) (vr vu vf : Value) (H : View) (ha : RepAu H a vr vu vf) : Sat Tryz.prog F2045 #[.agg #[vr, .int .i64 a.states, vu, vf]] H (fun r H' => ∃ v1 v2 v3, r = .agg #[v1, .int .i64 a.states, v2, v3] ∧ RepAu H' (normA a) v1 v2 v3) :=
  (sortedP_spec a vr vu vf H ha).mono' fun _ _ _ h => h.2.1
end Go.Proofs.X

namespace Go.Proofs.X
open Go Pal Go.Proofs
attribute [local irreducible] Pal.KO Pal.KC Pal.KQ Pal.KD

end Go.Proofs.X

namespace Go.Proofs.X
open Go Pal Go.Proofs
attribute [local irreducible] Pal.KO Pal.KC Pal.KQ Pal.KD
theorem ty4 : Ty Tryz.prog T4 false 1 := .of (by kernel_rfl)
theorem ty2048 : Ty Tryz.prog T2048 false 1 := .of (by kernel_rfl)
theorem c2054 : callable Tryz.prog F2054 = true := by kernel_rfl
theorem c2055 : callable Tryz.prog F2055 = true := by kernel_rfl
theorem whole1_spec (m : List Bool) (b1 bc : Nat) (q : Int) (H : View) (hml : m.length ≤ 65536) (hA : At H b1 0 [slc m.length bc]) (hc : At H bc 0 (mkL m).toList) (hq : 0 ≤ q ∧ q < m.length) : Sat Tryz.prog F2055 ([] ++ [Value.int .i64 q] ++ [ptr b1]).toArray H (fun v _ => v = .bool (!onL m q)) := by
  have hcm := hc.mark (q := q) (by omega)
  refine enterO (n := 9) (args := [.int .i64 q, ptr b1]) Tryz.func74 rfl rfl rfl fun w0 => ?_
  refine K_seq ?_
  refine K_region ?_
  refine KV (R_assign rfl) rfl ?_
  refine K_nil ?_
  refine Q_then ?_
  refine K_seq ?_
  refine K_region ?_
  refine KV (R_loadH ty52 rfl (hA) rfl (fun _ => rfl) rfl) rfl ?_
  refine KV (R_move rfl) rfl ?_
  refine KV (R_index sl52 ty4 rfl rfl ⟨by omega, by omega⟩) rfl ?_
  refine KV (R_loadH ty4 rfl (hcm) rfl (fun _ => rfl) rfl) rfl ?_
  refine KV (R_not rfl) rfl ?_
  refine KV (R_assign rfl) rfl ?_
  refine K_nil ?_
  refine Q_then ?_
  refine K_ret ?_
  refine results_gen (rs := [.tmp 3]) (vs := [_]) rfl ⟨rfl, trivial⟩ ?_
  rfl

theorem whole_spec (m : List Bool) (b1 bc : Nat) (r : Rl) (va : Value) (H : View) (hml : m.length ≤ 65536) (hA : At H b1 0 [slc m.length bc]) (hc : At H bc 0 (mkL m).toList) (hrv : RVok H (r, va)) (hra : ∀ q ∈ r.args, 0 ≤ q ∧ q < (m.length : Int)) : Sat Tryz.prog F2054 ([] ++ [Value.agg (cellRV (r, va)).toArray] ++ [ptr b1]).toArray H (fun v _ => v = .bool (r.args.all (onL m))) := by
  obtain ⟨xa, xcp, hxe⟩ := hrv.1.shape
  dsimp only at hxe
  subst hxe
  have hxl := hrv.2.1
  dsimp only at hxl
  have hrs : SI H (.slice xa r.args.length xcp) r.args := hrv.1
  refine enterO (n := 9) (args := [.agg #[.int .i64 r.sym, .slice xa r.args.length xcp, .int .i64 r.to], ptr b1]) Tryz.func73 rfl rfl rfl fun w0 => ?_
  refine K_seq ?_
  refine K_region ?_
  refine KA (A_box rfl) rfl fun b2 => ?_
  refine KV (R_assign rfl) rfl ?_
  refine K_nil ?_
  refine Q_then ?_
  refine K_seq ?_
  refine K_region ?_
  refine KV (R_fieldAddr 1 fd85_1 rfl) rfl ?_
  refine KV (R_loadO ty25 0 rfl rfl rfl rfl (fun _ => rfl) rfl) rfl ?_
  refine KV (R_makeFunc rfl rfl) rfl ?_
  refine K_call c86 rfl rfl (sicon_spec F2055 [ptr b1] (fun q => !onL m q) r.args _ H hrv.1 hxl c2055 (fun x V hx hV => whole1_spec m b1 bc x V hml (hA.mono hV) (hc.mono hV) (hra x hx))) ?_
  rintro _ V1 hv1 rfl
  refine KV (R_not rfl) rfl ?_
  refine KV (R_assign rfl) rfl ?_
  refine K_nil ?_
  refine Q_then ?_
  refine K_ret ?_
  refine results_gen (rs := [.tmp 3]) (vs := [_]) rfl ⟨rfl, trivial⟩ ?_
  refine congrArg Value.bool ?_
  rw [List.not_any_eq_all_not]
  simp

theorem come_spec (m : List Bool) (b5 b7 bc : Nat) (r : Rl) (va : Value) (H : View) (hml : m.length ≤ 65536) (hA5 : At H b5 0 [slc m.length bc]) (hA7 : At H b7 0 [.func (.func F2054) #[] #[ptr b5]]) (hrv : RVok H (r, va)) (hra : ∀ q ∈ r.args, 0 ≤ q ∧ q < (m.length : Int)) (hrt : 0 ≤ r.to ∧ r.to < (m.length : Int)) : SatO Tryz.prog F2057 ([] ++ [Value.agg (cellRV (r, va)).toArray] ++ [ptr b5, ptr b7]).toArray H [blk bc (.cells (mkL m) T4 (0, 0))] (fun v _ p => v = .bool (decide (comeS m r ≠ m)) ∧ p = [blk bc (.cells (mkL (comeS m r)) T4 (0, 0))]) := by
  obtain ⟨xa, xcp, hxe⟩ := hrv.1.shape
  dsimp only at hxe
  subst hxe
  have hxl := hrv.2.1
  dsimp only at hxl
  have hrs : SI H (.slice xa r.args.length xcp) r.args := hrv.1
  have hcell : cellRV (r, Value.slice xa r.args.length xcp) = [.int .i64 r.sym, .slice xa r.args.length xcp, .int .i64 r.to] := rfl
  refine enterO (n := 20) (args := [.agg #[.int .i64 r.sym, .slice xa r.args.length xcp, .int .i64 r.to], ptr b5, ptr b7]) Tryz.func76 rfl rfl rfl fun w0 => ?_
  refine K_seq ?_
  refine K_region ?_
  refine KA (A_box rfl) rfl fun b3 => ?_
  refine KV (R_assign rfl) rfl ?_
  refine K_nil ?_
  refine Q_then ?_
  refine K_seq ?_
  refine K_seq ?_
  refine K_region ?_
  refine KV (R_loadH ty52 rfl (hA5) rfl (fun _ => rfl) rfl) rfl ?_
  refine KV (R_fieldAddr 2 fd85_2 rfl) rfl ?_
  refine KV (R_loadO ty3 0 rfl rfl rfl rfl (fun _ => rfl) rfl) rfl ?_
  refine KV (R_index sl52 ty4 rfl rfl ⟨by omega, by omega⟩) rfl ?_
  refine KV (R_loadC ty4 1 rfl rfl (mkL_get (q := r.to) (by omega) (by omega))) rfl ?_
  refine KV (R_move rfl) rfl ?_
  refine K_splitB ?_ ?_
  ·
    intro h10
    refine K_gno rfl rfl rfl rfl ?_
    refine K_gno rfl rfl rfl rfl ?_
    refine K_gno rfl rfl rfl rfl ?_
    refine K_gno rfl rfl rfl rfl ?_
    refine KV (R_pickT rfl rfl) rfl ?_
    refine K_nil ?_
    refine Q_then ?_
    refine K_ifT rfl ?_
    refine K_seq ?_
    refine K_region ?_
    refine KV (R_assign rfl) rfl ?_
    refine K_nil ?_
    refine Q_then ?_
    refine K_ret ?_
    refine Q_then_ret ?_
    refine results_sel [1] rfl (rs := [.tmp 4]) (vs := [_]) rfl ⟨rfl, trivial⟩ ?_
    rw [come_old (by omega) h10]
    exact ⟨by simp [tupV], rfl⟩
  ·
    intro h10
    refine K_gyes rfl rfl ?_
    refine KV (R_loadH ty2048 rfl (hA7) rfl (fun _ => rfl) rfl) rfl ?_
    refine K_gyes rfl rfl ?_
    refine KV (R_loadW ty85 0 rfl rfl rfl rfl) rfl ?_
    refine K_gyes rfl rfl ?_
    refine KO_sel [1, 0] rfl ?_
    refine K_callO (first := []) [_] _ (List.Perm.refl _) c2054 rfl rfl rfl (Sat.lend (blk bc (.cells (mkL m) T4 (0, 0))) fun H2 hle hh => whole_spec m b5 bc r _ H2 hml (hA5.mono hle) (At.of hh) (hrv.mono hle) hra) ?_
    rintro _ V1 q13 hv1 ⟨rfl, rfl, rfl⟩
    dsimp only [List.cons_append, List.nil_append]
    refine K_gyes rfl rfl ?_
    refine KV (R_not rfl) rfl ?_
    refine KV (R_pickF rfl rfl) rfl ?_
    refine K_nil ?_
    refine Q_then ?_
    refine K_ifB rfl (fun h15 => ?_) (fun h15 => ?_)
    ·
      have hall : r.args.all (onL m) = false := by simpa using h15
      refine K_seq ?_
      refine K_region ?_
      refine KV (R_assign rfl) rfl ?_
      refine K_nil ?_
      refine Q_then ?_
      refine K_ret ?_
      refine Q_then_ret ?_
      refine results_sel [0] rfl (rs := [.tmp 4]) (vs := [_]) rfl ⟨rfl, trivial⟩ ?_
      rw [come_not hall]
      exact ⟨by simp [tupV], rfl⟩
    ·
      have hall : r.args.all (onL m) = true := by simpa using h15
      obtain ⟨hs1, hs2⟩ := come_new (by omega) h10 hall
      refine K_skip ?_
      refine Q_then ?_
      refine K_seq ?_
      refine K_region ?_
      refine KV (R_loadH ty52 rfl (hA5) rfl (fun _ => rfl) rfl) rfl ?_
      refine KV (R_fieldAddr 2 fd85_2 rfl) rfl ?_
      refine KV (R_loadO ty3 1 rfl rfl rfl rfl (fun _ => rfl) rfl) rfl ?_
      refine KV (R_index sl52 ty4 rfl rfl ⟨by omega, by omega⟩) rfl ?_
      refine K_storeE ty4 0 rfl rfl rfl rfl (by rw [mkL_size]; show _ + 1 ≤ _; omega) rfl (mkL_put (q := r.to) (by omega) (by omega)) ?_
      refine K_nil ?_
      refine Q_then ?_
      refine K_seq ?_
      refine K_region ?_
      refine KV (R_assign rfl) rfl ?_
      refine K_nil ?_
      refine Q_then ?_
      refine K_ret ?_
      refine results_sel [0] rfl (rs := [.tmp 4]) (vs := [_]) rfl ⟨rfl, trivial⟩ ?_
      rw [hs2, hs1]
      exact ⟨rfl, rfl⟩
end Go.Proofs.X

namespace Go.Proofs.X
open Go Pal Go.Proofs
attribute [local irreducible] Pal.KO Pal.KC Pal.KQ Pal.KD

theorem lead_spec (c m : List Bool) (b5 b6 b7 bc bl : Nat) (r : Rl) (va : Value) (H : View) (hml : m.length ≤ 65536) (hcl : c.length = m.length) (hA5 : At H b5 0 [slc c.length bc]) (hc : At H bc 0 (mkL c).toList) (hA6 : At H b6 0 [slc m.length bl]) (hA7 : At H b7 0 [.func (.func F2054) #[] #[ptr b5]]) (hrv : RVok H (r, va)) (hra : ∀ q ∈ r.args, 0 ≤ q ∧ q < (m.length : Int)) (hrt : 0 ≤ r.to ∧ r.to < (m.length : Int)) : SatO Tryz.prog F2058 ([] ++ [Value.agg (cellRV (r, va)).toArray] ++ [ptr b6, ptr b7]).toArray H [blk bl (.cells (mkL m) T4 (0, 0))] (fun v _ p => v = .bool (decide (leadS c m r ≠ m)) ∧ p = [blk bl (.cells (mkL (leadS c m r)) T4 (0, 0))]) := by
  obtain ⟨xa, xcp, hxe⟩ := hrv.1.shape
  dsimp only at hxe
  subst hxe
  have hxl := hrv.2.1
  dsimp only at hxl
  have hrs : SI H (.slice xa r.args.length xcp) r.args := hrv.1
  have hra2 : ∀ q ∈ r.args, 0 ≤ q ∧ q < (c.length : Int) := fun q hq => by have := hra q hq; omega
  refine enterO (n := 38) (args := [.agg #[.int .i64 r.sym, .slice xa r.args.length xcp, .int .i64 r.to], ptr b6, ptr b7]) Tryz.func77 rfl rfl rfl fun w0 => ?_
  refine K_seq ?_
  refine K_region ?_
  refine KA (A_box rfl) rfl fun b3 => ?_
  refine KV (R_assign rfl) rfl ?_
  refine K_nil ?_
  refine Q_then ?_
  refine K_seq ?_
  refine K_region ?_
  refine KV (R_assign rfl) rfl ?_
  refine K_nil ?_
  refine Q_then ?_
  refine K_seq ?_
  refine K_seq ?_
  refine K_region ?_
  refine KV (R_loadH ty52 rfl (hA6) rfl (fun _ => rfl) rfl) rfl ?_
  refine KV (R_fieldAddr 2 fd85_2 rfl) rfl ?_
  refine KV (R_loadO ty3 0 rfl rfl rfl rfl (fun _ => rfl) rfl) rfl ?_
  refine KV (R_index sl52 ty4 rfl rfl ⟨by omega, by omega⟩) rfl ?_
  refine KV (R_loadC ty4 1 rfl rfl (mkL_get (q := r.to) (by omega) (by omega))) rfl ?_
  refine KV (R_move rfl) rfl ?_
  refine K_splitB ?_ ?_
  ·
    intro h13
    refine K_gyes rfl rfl ?_
    refine KV (R_loadH ty2048 rfl (hA7) rfl (fun _ => rfl) rfl) rfl ?_
    refine K_gyes rfl rfl ?_
    refine KV (R_loadW ty85 0 rfl rfl rfl rfl) rfl ?_
    refine K_gyes rfl rfl ?_
    refine K_callO (first := []) [] _ (List.Perm.refl _) c2054 rfl rfl rfl (whole_spec c b5 bc r _ H (by omega) hA5 hc hrv hra2).nil ?_
    rintro _ V1 q16 hv1 ⟨rfl, rfl⟩
    dsimp only [List.nil_append]
    refine KV (R_pickT rfl rfl) rfl ?_
    refine K_nil ?_
    refine Q_then ?_
    refine K_ifB rfl (fun h17 => ?_) (fun h17 => ?_)
    ·
      refine K_seq ?_
      refine K_region ?_
      refine KV (R_fieldAddr 1 fd85_1 rfl) rfl ?_
      refine KV (R_loadO ty25 0 rfl rfl rfl rfl (fun _ => rfl) rfl) rfl ?_
      refine KV (R_len sl25 rfl) rfl ?_
      refine KV (R_move rfl) rfl ?_
      refine K_nil ?_
      refine Q_then ?_
      refine K_block ?_
      refine K_loopD (G := Nat) [5, 7, 21, 22, 23, 24, 25, 26, 27, 28, 29, 30, 31, 32, 33, 34, 35, 36] (fun g => [(21, .int .i64 (g : Int)), (5, .bool (decide (setsL m (r.args.take g) ≠ m)))]) (fun hl g => (hl.set 1 (blk bl (.cells (mkL (setsL m (r.args.take g))) T4 (0, 0))))) (fun g => V1) (fun g => (g ≤ r.args.length)) (fun g => r.args.length - g) (0 : Nat) (Nat.zero_le _) ⟨rfl, (congrArg (fun z => some (Value.bool z)) (by simp [setsL])), trivial⟩ (by simp only [args0, Nat.reduceAdd, del, memN, beqN, Nat.reduceBEq, cond_true, cond_false]; rfl) rfl rfl ?_
      rintro k hk
      try dsimp only at hk
      dsimp only [List.set, List.cons_append, List.nil_append]
      have hkl := setsL_len m (r.args.take k)
      have hV := hv1
      refine K_seq ?_
      refine K_region ?_
      refine KV (R_cmp rfl rfl rfl) rfl ?_
      refine K_nil ?_
      refine Q_then ?_
      refine K_seq ?_
      refine K_if rfl (fun h22 => ?_) (fun h22 => ?_)
      ·
        have hk' : k < r.args.length := by omega
        obtain ⟨tb, to_, hte, hxk⟩ := (hrs.mono hV).get hk'
        cases hte
        have hqk := hra _ (List.getElem_mem hk')
        refine K_skip ?_
        refine Q_then ?_
        refine K_seq ?_
        refine K_block ?_
        refine K_seq ?_
        refine K_region ?_
        refine KV (R_indexN sl25 ty3 rfl rfl (by omega)) rfl ?_
        refine KV (R_loadH ty3 rfl (hxk) rfl (fun _ => rfl) rfl) rfl ?_
        refine KV (R_assign rfl) rfl ?_
        refine K_nil ?_
        refine Q_then ?_
        refine K_seq ?_
        refine K_region ?_
        refine KV (R_move rfl) rfl ?_
        refine KV (R_move rfl) rfl ?_
        refine K_splitB ?_ ?_
        ·
          intro h26
          refine K_gno rfl rfl rfl rfl ?_
          refine K_gno rfl rfl rfl rfl ?_
          refine K_gno rfl rfl rfl rfl ?_
          refine K_gno rfl rfl rfl rfl ?_
          refine K_gno rfl rfl rfl rfl ?_
          refine KV (R_pickT rfl rfl) rfl ?_
          refine KV (R_assign rfl) rfl ?_
          refine K_nil ?_
          refine Q_then ?_
          refine K_region ?_
          refine KV (R_loadH ty52 rfl (hA6.mono hV) rfl (fun _ => rfl) rfl) rfl ?_
          refine KV (R_move rfl) rfl ?_
          refine KV (R_index sl52 ty4 rfl rfl ⟨by omega, by omega⟩) rfl ?_
          refine K_storeE ty4 1 rfl rfl rfl rfl (by rw [mkL_size]; show _ + 1 ≤ _; omega) rfl (mkL_put (q := r.args[k]) (by omega) (by omega)) ?_
          refine K_nil ?_
          refine Q_block ?_
          refine Q_then ?_
          refine K_region ?_
          refine KV (R_add rfl rfl (by omega)) rfl ?_
          refine KV (R_move rfl) rfl ?_
          refine K_nil ?_
          refine Q_nextD ((k + 1)) hk' (by (try dsimp only); omega) ⟨rfl, (congrArg (fun z => some (Value.bool z)) (by rw [setsL_more hk' (by omega), h26]; simp)), trivial⟩ rfl (by dsimp only [List.set]; rw [setsL_snoc hk']) rfl
        ·
          intro h26
          refine K_gyes rfl rfl ?_
          refine KV (R_loadH ty52 rfl (hA6.mono hV) rfl (fun _ => rfl) rfl) rfl ?_
          refine K_gyes rfl rfl ?_
          refine KV (R_move rfl) rfl ?_
          refine K_gyes rfl rfl ?_
          refine KV (R_index sl52 ty4 rfl rfl ⟨by omega, by rw [← hkl]; omega⟩) rfl ?_
          refine K_gyes rfl rfl ?_
          refine KV (R_loadC ty4 1 rfl rfl (mkL_get (q := r.args[k]) (by omega) (by omega))) rfl ?_
          refine K_gyes rfl rfl ?_
          refine KV (R_not rfl) rfl ?_
          refine KV (R_pickF rfl rfl) rfl ?_
          refine KV (R_assign rfl) rfl ?_
          refine K_nil ?_
          refine Q_then ?_
          refine K_region ?_
          refine KV (R_loadH ty52 rfl (hA6.mono hV) rfl (fun _ => rfl) rfl) rfl ?_
          refine KV (R_move rfl) rfl ?_
          refine KV (R_index sl52 ty4 rfl rfl ⟨by omega, by omega⟩) rfl ?_
          refine K_storeE ty4 1 rfl rfl rfl rfl (by rw [mkL_size]; show _ + 1 ≤ _; omega) rfl (mkL_put (q := r.args[k]) (by omega) (by omega)) ?_
          refine K_nil ?_
          refine Q_block ?_
          refine Q_then ?_
          refine K_region ?_
          refine KV (R_add rfl rfl (by omega)) rfl ?_
          refine KV (R_move rfl) rfl ?_
          refine K_nil ?_
          refine Q_nextD ((k + 1)) hk' (by (try dsimp only); omega) ⟨rfl, (congrArg (fun z => some (Value.bool z)) (by rw [setsL_more hk' (by omega), h26]; simp)), trivial⟩ rfl (by dsimp only [List.set]; rw [setsL_snoc hk']) rfl
      ·
        have hk' : k = r.args.length := by omega
        rw [hk', List.take_length]
        refine K_exit ?_
        refine Q_then_exit ?_
        refine Q_then_exit ?_
        refine Q_block_exit ?_
        refine Q_then ?_
        refine K_seq ?_
        refine K_region ?_
        refine KV (R_move rfl) rfl ?_
        refine KV (R_assign rfl) rfl ?_
        refine K_nil ?_
        refine Q_then ?_
        refine K_ret ?_
        refine results_sel [1] rfl (rs := [.tmp 4]) (vs := [_]) rfl ⟨rfl, trivial⟩ ?_
        rw [lead_do h13 h17]
        exact ⟨rfl, rfl⟩
    ·
      refine K_skip ?_
      refine Q_then ?_
      refine K_seq ?_
      refine K_region ?_
      refine KV (R_move rfl) rfl ?_
      refine KV (R_assign rfl) rfl ?_
      refine K_nil ?_
      refine Q_then ?_
      refine K_ret ?_
      refine results_sel [1] rfl (rs := [.tmp 4]) (vs := [_]) rfl ⟨rfl, trivial⟩ ?_
      rw [lead_not (fun h => by rw [h17] at h; cases h.2)]
      exact ⟨by simp [tupV], rfl⟩
  ·
    intro h13
    refine K_gno rfl rfl rfl rfl ?_
    refine K_gno rfl rfl rfl rfl ?_
    refine K_gno rfl rfl rfl rfl ?_
    refine KV (R_pickF rfl rfl) rfl ?_
    refine K_nil ?_
    refine Q_then ?_
    refine K_ifF rfl ?_
    refine K_skip ?_
    refine Q_then ?_
    refine K_seq ?_
    refine K_region ?_
    refine KV (R_move rfl) rfl ?_
    refine KV (R_assign rfl) rfl ?_
    refine K_nil ?_
    refine Q_then ?_
    refine K_ret ?_
    refine results_sel [1] rfl (rs := [.tmp 4]) (vs := [_]) rfl ⟨rfl, trivial⟩ ?_
    rw [lead_not (fun h => by rw [h13] at h; cases h.1)]
    exact ⟨by simp [tupV], rfl⟩
end Go.Proofs.X

namespace Go.Proofs.X
open Go Pal Go.Proofs
attribute [local irreducible] Pal.KO Pal.KC Pal.KQ Pal.KD

theorem close_spec (a : Au) (vr vu vf : Value) (H0 : View) (ha : RepAu H0 a vr vu vf) (gf : Nat) (cap0 : List Value) (hct : callable Tryz.prog gf = true) (S : List Bool → Rl → List Bool) (hS : ∀ m r, Up m (S m r)) (ent : List Bool → Own) (n : Nat)
    (hvis : ∀ V m r va, VLe H0 V → m.length = n → r ∈ a.rules → RVok V (r, va) → SatO Tryz.prog gf ([] ++ [Value.agg (cellRV (r, va)).toArray] ++ cap0).toArray V [ent m] (fun v _ p => v = .bool (decide (S m r ≠ m)) ∧ p = [ent (S m r)]))
    (m0 : List Bool) (hm0 : m0.length = n) : SatO Tryz.prog F2056 #[.agg #[vr, .int .i64 a.states, vu, vf], .func (.func gf) #[] cap0.toArray] H0 [ent m0] (fun _ _ p => ∃ m k, p = [ent m] ∧ m = iterF (fun z => a.rules.foldl S z) k m0 ∧ a.rules.foldl S m = m) := by
  have hab := ha.ul
  obtain ⟨ar, arc, rfl⟩ := ha.r.shape
  obtain ⟨af, afc, rfl⟩ := ha.f.shape
  obtain ⟨au, auc, rfl⟩ := ha.ushape
  refine enterO (n := 22) (args := [.agg #[.slice ar a.ranks.length arc, .int .i64 a.states, .slice au a.rules.length auc, .slice af a.final.length afc], .func (.func gf) #[] cap0.toArray]) Tryz.func75 rfl rfl rfl fun w0 => ?_
  refine K_seq ?_
  refine K_region ?_
  refine KA (A_box rfl) rfl fun b2 => ?_
  refine K_nil ?_
  refine Q_then ?_
  refine K_seq ?_
  refine K_region ?_
  refine KV (R_assign rfl) rfl ?_
  refine K_nil ?_
  refine Q_then ?_
  refine K_block ?_
  refine K_loopD (G := Nat × List Bool × View × Bool) [4, 6, 7, 8, 9, 10, 11, 12, 13, 14, 15, 16, 17, 18, 19, 20, 21] (fun g => [(4, .bool g.2.2.2)]) (fun hl g => (hl.set 1 (ent g.2.1))) (fun g => g.2.2.1) (fun g => (VLe H0 g.2.2.1) ∧ (g.2.1 = iterF (fun z => a.rules.foldl S z) g.1 m0) ∧ (g.2.1.length = n) ∧ (g.2.2.2 = false → a.rules.foldl S g.2.1 = g.2.1)) (fun g => (n - g.2.1.count true) + (if g.2.2.2 = true then 1 else 0)) (0, m0, H0, true) ⟨VLe.refl _, rfl, hm0, fun e => by cases e⟩ ⟨rfl, trivial⟩ (by simp only [args0, Nat.reduceAdd, del, memN, beqN, Nat.reduceBEq, cond_true, cond_false]; rfl) rfl rfl ?_
  rintro ⟨k, m, V, more⟩ ⟨hV, hm, hmn, hfix⟩
  dsimp only at hV hm hmn hfix
  dsimp only [List.set, List.cons_append, List.nil_append]
  refine K_seq ?_
  refine K_seq ?_
  refine K_region ?_
  refine KV (R_move rfl) rfl ?_
  refine K_nil ?_
  refine Q_then ?_
  refine K_ifB rfl (fun h7 => ?_) (fun h7 => ?_)
  ·
    refine K_skip ?_
    refine Q_then ?_
    refine K_block ?_
    refine K_seq ?_
    refine K_region ?_
    refine KV (R_assign rfl) rfl ?_
    refine K_nil ?_
    refine Q_then ?_
    refine K_seq ?_
    refine K_region ?_
    refine KV (R_fieldAddr 2 fd50_2 rfl) rfl ?_
    refine KV (R_loadO ty48 0 rfl rfl rfl rfl (fun _ => rfl) rfl) rfl ?_
    refine KV (R_len sl48 rfl) rfl ?_
    refine KV (R_move rfl) rfl ?_
    refine K_nil ?_
    refine Q_then ?_
    refine K_block ?_
    refine K_loopD (G := Nat × View) [4, 6, 11, 12, 13, 14, 15, 16, 17, 18, 19, 20, 21] (fun g => [(11, .int .i64 (g.1 : Int)), (4, .bool (decide ((a.rules.take g.1).foldl S m ≠ m)))]) (fun hl g => (hl.set 1 (ent ((a.rules.take g.1).foldl S m)))) (fun g => g.2) (fun g => (g.1 ≤ a.rules.length) ∧ (VLe V g.2)) (fun g => a.rules.length - g.1) (0, V) ⟨Nat.zero_le _, VLe.refl _⟩ ⟨rfl, (congrArg (fun z => some (Value.bool z)) (by simp)), trivial⟩ (by simp only [args0, Nat.reduceAdd, del, memN, beqN, Nat.reduceBEq, cond_true, cond_false]; rfl) rfl rfl ?_
    rintro ⟨j, V1⟩ ⟨hj, hV1⟩
    dsimp only at hj hV1
    dsimp only [List.set, List.cons_append, List.nil_append]
    refine K_seq ?_
    refine K_region ?_
    refine KV (R_cmp rfl rfl rfl) rfl ?_
    refine K_nil ?_
    refine Q_then ?_
    refine K_seq ?_
    refine K_if rfl (fun h12 => ?_) (fun h12 => ?_)
    ·
      have hj' : j < a.rules.length := by omega
      obtain ⟨ub, uo, ucp2, xa, xcp, hue, hrc, hsr, hsym, hto, hxl⟩ := (ha.mono (hV.trans hV1)).rule hj'
      cases hue
      refine K_skip ?_
      refine Q_then ?_
      refine K_seq ?_
      refine K_block ?_
      refine K_seq ?_
      refine K_region ?_
      refine KV (R_indexN sl48 ty85 rfl rfl (by omega)) rfl ?_
      refine KV (R_loadH ty85 rfl (hrc) rfl (fun e => by cases e) rfl) rfl ?_
      refine KA (A_alloc z85) rfl fun b6 => ?_
      refine K_storeW ty85 0 rfl rfl rfl rfl rfl rfl rfl ?_
      refine K_nil ?_
      refine Q_then ?_
      refine K_region ?_
      refine KV (R_move rfl) rfl ?_
      refine KV (R_loadW ty85 0 rfl rfl rfl rfl) rfl ?_
      refine KO_sel [2, 0, 0] rfl ?_
      refine K_callO (first := []) [_] _ (List.Perm.refl _) hct rfl rfl rfl (hvis V1 _ a.rules[j] _ (hV.trans hV1) ((up_fold hS (a.rules.take j) m).len.trans hmn) (List.getElem_mem hj') ⟨hsr, hxl, hsym, hto⟩) ?_
      rintro _ V2 q17 hv2 ⟨rfl, rfl⟩
      dsimp only [List.cons_append, List.nil_append]
      refine KV (R_move rfl) rfl ?_
      refine K_splitB ?_ ?_
      ·
        intro h18
        refine K_gno rfl rfl rfl rfl ?_
        refine KV (R_pickT rfl rfl) rfl ?_
        refine KV (R_assign rfl) rfl ?_
        refine K_nil ?_
        refine Q_block ?_
        refine Q_then ?_
        refine K_region ?_
        refine KV (R_add rfl rfl (by omega)) rfl ?_
        refine KV (R_move rfl) rfl ?_
        refine K_nil ?_
        refine KQ_sel [2, 0] rfl ?_
        refine Q_nextD (j + 1, V2) ⟨hj', hV1.trans hv2⟩ (by (try dsimp only); omega) ⟨rfl, (congrArg (fun z => some (Value.bool z)) (by rw [fold_more hS hj', h18]; simp)), trivial⟩ rfl (by dsimp only [List.set]; rw [List.take_succ_eq_append_getElem hj', List.foldl_append]; rfl) rfl
      ·
        intro h18
        refine K_gyes rfl rfl ?_
        refine KV (R_move rfl) rfl ?_
        refine KV (R_pickF rfl rfl) rfl ?_
        refine KV (R_assign rfl) rfl ?_
        refine K_nil ?_
        refine Q_block ?_
        refine Q_then ?_
        refine K_region ?_
        refine KV (R_add rfl rfl (by omega)) rfl ?_
        refine KV (R_move rfl) rfl ?_
        refine K_nil ?_
        refine KQ_sel [2, 0] rfl ?_
        refine Q_nextD (j + 1, V2) ⟨hj', hV1.trans hv2⟩ (by (try dsimp only); omega) ⟨rfl, (congrArg (fun z => some (Value.bool z)) (by rw [fold_more hS hj', h18]; simp)), trivial⟩ rfl (by dsimp only [List.set]; rw [List.take_succ_eq_append_getElem hj', List.foldl_append]; rfl) rfl
    ·
      have hj' : j = a.rules.length := by omega
      rw [hj', List.take_length]
      refine K_exit ?_
      refine Q_then_exit ?_
      refine Q_then_exit ?_
      refine Q_block_exit ?_
      refine Q_block ?_
      have hup := up_fold hS a.rules m
      have hcl := List.count_le_length (a := true) (l := a.rules.foldl S m)
      have hln := hup.len
      refine Q_nextD (k + 1, a.rules.foldl S m, V1, decide (a.rules.foldl S m ≠ m)) ⟨hV.trans hV1, by rw [hm]; rfl, by rw [hln]; exact hmn, fun e => by have e2 := Decidable.not_not.1 (of_decide_eq_false e); rw [e2]; exact e2⟩ (by
        dsimp only
        rw [if_pos h7]
        rcases hup.cnt with e | e
        · rw [e]; simp
        · split <;> omega) ⟨rfl, trivial⟩ rfl rfl rfl
  ·
    refine K_exit ?_
    refine Q_then_exit ?_
    refine Q_then_exit ?_
    refine Q_block_exit ?_
    refine Q_fall ?_
    refine results_sel [1] rfl (rs := []) (vs := []) rfl trivial ?_
    exact ⟨m, k, rfl, hm, hfix h7⟩

theorem gone_spec (a : Au) (n b1 bt : Nat) (q : Int) (H : View) (hn : n ≤ 65536) (hA : At H b1 0 [slc n bt]) (hc : At H bt 0 (fnC n (toF a n)).toList) (hq : 0 ≤ q ∧ q < (n : Int)) : Sat Tryz.prog F2059 ([] ++ [Value.int .i64 q] ++ [ptr b1]).toArray H (fun v _ => v = .bool (!stayA a q)) := by
  have hcm := hc.fn (q := q) (by omega)
  rw [toF_full (by omega)] at hcm
  refine enterO (n := 9) (args := [.int .i64 q, ptr b1]) Tryz.func79 rfl rfl rfl fun w0 => ?_
  refine K_seq ?_
  refine K_region ?_
  refine KV (R_assign rfl) rfl ?_
  refine K_nil ?_
  refine Q_then ?_
  refine K_seq ?_
  refine K_region ?_
  refine KV (R_loadH ty25 rfl (hA) rfl (fun _ => rfl) rfl) rfl ?_
  refine KV (R_move rfl) rfl ?_
  refine KV (R_index sl25 ty3 rfl rfl ⟨by omega, by omega⟩) rfl ?_
  refine KV (R_loadH ty3 rfl (hcm) rfl (fun _ => rfl) rfl) rfl ?_
  refine KV (R_cmp rfl rfl rfl) rfl ?_
  refine KV (R_assign rfl) rfl ?_
  refine K_nil ?_
  refine Q_then ?_
  refine K_ret ?_
  refine results_gen (rs := [.tmp 3]) (vs := [_]) rfl ⟨rfl, trivial⟩ ?_
  refine congrArg Value.bool ?_
  have h1 := newV_neg (a := a) (x := q.toNat)
  rw [Int.toNat_of_nonneg hq.1] at h1
  by_cases hb : stayA a q = true
  · rw [hb]; exact decide_eq_false (fun h => by rw [h1.1 h] at hb; cases hb)
  · have hb2 : stayA a q = false := by simpa using hb
    rw [hb2]; exact decide_eq_true (h1.2 hb2)
end Go.Proofs.X
