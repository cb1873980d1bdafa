/-
  Part of the proof: rules for walks, contracts of the functions that the statements reach, plain laws. Own work. No statement of the seat is proved here.
-/
import Derived.Test.YtknnjemehafecaaGreatDoorPart2
namespace Go.Proofs.X
open Go Pal Go.Proofs
attribute [local irreducible] Pal.KO Pal.KC Pal.KQ Pal.KD
theorem ty47 : Ty Tryz.prog T47 false 1 := .of (by kernel_rfl)
theorem ty48 : Ty Tryz.prog T48 false 1 := .of (by kernel_rfl)
theorem ty50 : Ty Tryz.prog T50 true 4 := .of (by kernel_rfl)
theorem ty85 : Ty Tryz.prog T85 true 3 := .of (by kernel_rfl)
theorem ty108 : Ty Tryz.prog T108 false 1 := .of (by kernel_rfl)
theorem sl47 : slcOk Tryz.prog T47 T3 := by unfold slcOk; kernel_rfl
theorem sl48 : slcOk Tryz.prog T48 T85 := by unfold slcOk; kernel_rfl
theorem fd50_0 : fldOk Tryz.prog T50 0 0 = true := by kernel_rfl
theorem fd50_1 : fldOk Tryz.prog T50 1 1 = true := by kernel_rfl
theorem fd50_2 : fldOk Tryz.prog T50 2 2 = true := by kernel_rfl
theorem fd50_3 : fldOk Tryz.prog T50 3 3 = true := by kernel_rfl
theorem fd85_0 : fldOk Tryz.prog T85 0 0 = true := by kernel_rfl
theorem fd85_1 : fldOk Tryz.prog T85 1 1 = true := by kernel_rfl
theorem fd85_2 : fldOk Tryz.prog T85 2 2 = true := by kernel_rfl
theorem z85 : zeroOk Tryz.prog T85 (.agg #[.int .i64 0, .slice none 0 0, .int .i64 0]) := .of (by kernel_rfl)
theorem z108 : zeroOk Tryz.prog T108 (.nilFunc) := .of (by kernel_rfl)
theorem c72 : callable Tryz.prog F72 = true := by kernel_rfl
theorem c83 : callable Tryz.prog F83 = true := by kernel_rfl
theorem c84 : callable Tryz.prog F84 = true := by kernel_rfl
theorem c86 : callable Tryz.prog F86 = true := by kernel_rfl
theorem c95 : callable Tryz.prog F95 = true := by kernel_rfl
theorem c96 : callable Tryz.prog F96 = true := by kernel_rfl
theorem c97 : callable Tryz.prog F97 = true := by kernel_rfl
theorem c100 : callable Tryz.prog F100 = true := by kernel_rfl
theorem c101 : callable Tryz.prog F101 = true := by kernel_rfl
theorem c110 : callable Tryz.prog F110 = true := by kernel_rfl
theorem c112 : callable Tryz.prog F112 = true := by kernel_rfl
theorem c113 : callable Tryz.prog F113 = true := by kernel_rfl
theorem siidx_spec (f : Nat) (cap : List Value) (p : Int → Bool) (xs : List Int) (v : Value) (H : View) (hv : SI H v xs) (hl : xs.length ≤ 1099511627776) (hcal : callable Tryz.prog f = true)
    (hp : ∀ x V, x ∈ xs → VLe H V → Sat Tryz.prog f ([] ++ [Value.int .i64 x] ++ cap).toArray V (fun r _ => r = .bool (p x))) :
    Sat Tryz.prog F110 #[v, .func (.func f) #[] cap.toArray] H (fun r _ => ∃ i : Int, r = .int .i64 i ∧ (0 ≤ i ↔ ∃ x ∈ xs, p x = true)) := by
  obtain ⟨a, cp, rfl⟩ := hv.shape
  refine enterO (n := 19) (args := [.slice a xs.length cp, .func (.func f) #[] cap.toArray]) Tryz.func135 rfl rfl rfl fun w0 => ?_
  refine K_seq ?_
  refine K_region ?_
  refine KV (R_assign rfl) rfl ?_
  refine K_nil ?_
  refine Q_then ?_
  refine K_seq ?_
  refine K_seq ?_
  refine K_region ?_
  refine KV (R_move rfl) rfl ?_
  refine KV (R_len sl25 rfl) rfl ?_
  refine KV (R_move rfl) rfl ?_
  refine K_nil ?_
  refine Q_then ?_
  refine K_block ?_
  refine K_loop (G := Nat × View) ⟨fun g => [(0, .slice a xs.length cp), (1, .func (.func f) #[] cap.toArray), (7, .int .i64 xs.length), (8, .int .i64 (g.1 : Int))], fun g => [], fun g => g.2, fun g => g.1 ≤ xs.length ∧ VLe H g.2 ∧ ∀ j (h : j < xs.length), j < g.1 → p xs[j] = false, fun g => xs.length - g.1⟩ (0, H) ⟨Nat.zero_le _, VLe.refl H, fun j _ h => by simp at h⟩ ⟨rfl, rfl, rfl, rfl, trivial⟩ rfl rfl ?_
  rintro ⟨k, V⟩ ⟨hk, hV, hno⟩
  dsimp only at hk hV hno ⊢
  refine K_seq ?_
  refine K_region ?_
  refine KV (R_cmp rfl rfl rfl) rfl ?_
  refine K_nil ?_
  refine Q_then ?_
  refine K_seq ?_
  refine K_if rfl (fun h9 => ?_) (fun h9 => ?_)
  ·
    have hk' : k < xs.length := by omega
    obtain ⟨tb, to_, rfl, hta⟩ := (hv.mono hV).get hk'
    refine K_skip ?_
    refine Q_then ?_
    refine K_seq ?_
    refine K_block ?_
    refine K_seq ?_
    refine K_region ?_
    refine KV (R_move rfl) rfl ?_
    refine KV (R_assign rfl) rfl ?_
    refine K_nil ?_
    refine Q_then ?_
    refine K_seq ?_
    refine K_region ?_
    refine KV (R_move rfl) rfl ?_
    refine KV (R_move rfl) rfl ?_
    refine KV (R_move rfl) rfl ?_
    refine KV (R_indexN sl25 ty3 rfl rfl (by omega)) rfl ?_
    refine KV (R_loadH ty3 rfl (hta) rfl (fun _ => rfl) rfl) rfl ?_
    refine K_callO (first := []) [] [] (List.Perm.refl _) hcal rfl rfl rfl (hp xs[k] V (List.getElem_mem hk') hV) ?_
    rintro _ V' q hle rfl
    refine KO_own [] (List.nil_sublist _) ?_
    refine K_nil ?_
    refine Q_then ?_
    refine K_ifB rfl (fun h16 => ?_) (fun h16 => ?_)
    ·
      refine K_seq ?_
      refine K_region ?_
      refine KV (R_move rfl) rfl ?_
      refine KV (R_assign rfl) rfl ?_
      refine K_nil ?_
      refine Q_then ?_
      refine K_ret ?_
      refine Q_block_ret ?_
      refine Q_then_ret ?_
      refine Q_then_ret ?_
      refine Q_block_ret ?_
      refine Q_then_ret ?_
      refine results_gen (rs := [.tmp 4]) (vs := [_]) rfl ⟨rfl, trivial⟩ ?_
      exact ⟨k, rfl, ⟨fun _ => ⟨_, List.getElem_mem hk', h16⟩, fun _ => by omega⟩⟩
    ·
      have hno2 : ∀ j (h : j < xs.length), j < k + 1 → p xs[j] = false := by
        intro j h hj
        by_cases e : j = k
        · subst e; exact h16
        · exact hno j h (by omega)
      refine K_skip ?_
      refine Q_block ?_
      refine Q_then ?_
      refine K_region ?_
      refine KV (R_add rfl rfl (by omega)) rfl ?_
      refine KV (R_move rfl) rfl ?_
      refine K_nil ?_
      exact Q_next (k + 1, V') ⟨hk', hV.trans hle, hno2⟩ (by dsimp only; omega) ⟨rfl, rfl, rfl, rfl, trivial⟩ rfl rfl
  ·
    have hk' : k = xs.length := by omega
    refine K_exit ?_
    refine Q_then_exit ?_
    refine Q_then_exit ?_
    refine Q_block_exit ?_
    refine Q_then ?_
    refine K_seq ?_
    refine K_region ?_
    refine KV (R_assign rfl) rfl ?_
    refine K_nil ?_
    refine Q_then ?_
    refine K_ret ?_
    refine results_gen (rs := [.tmp 4]) (vs := [_]) rfl ⟨rfl, trivial⟩ ?_
    refine ⟨-1, rfl, ⟨fun h => by omega, ?_⟩⟩
    rintro ⟨x, hx, hpx⟩
    obtain ⟨j, hj, rfl⟩ := List.getElem_of_mem hx
    rw [hno j hj (by omega)] at hpx; cases hpx

theorem sicon_spec (f : Nat) (cap : List Value) (p : Int → Bool) (xs : List Int) (v : Value) (H : View) (hv : SI H v xs) (hl : xs.length ≤ 1099511627776) (hcal : callable Tryz.prog f = true)
    (hp : ∀ x V, x ∈ xs → VLe H V → Sat Tryz.prog f ([] ++ [Value.int .i64 x] ++ cap).toArray V (fun r _ => r = .bool (p x))) :
    Sat Tryz.prog F86 #[v, .func (.func f) #[] cap.toArray] H (fun r _ => r = .bool (xs.any p)) := by
  obtain ⟨a, cp, rfl⟩ := hv.shape
  refine enterO (n := 9) (args := [.slice a xs.length cp, .func (.func f) #[] cap.toArray]) Tryz.func80 rfl rfl rfl fun w0 => ?_
  refine K_seq ?_
  refine K_region ?_
  refine KV (R_assign rfl) rfl ?_
  refine K_nil ?_
  refine Q_then ?_
  refine K_seq ?_
  refine K_region ?_
  refine KV (R_move rfl) rfl ?_
  refine KV (R_move rfl) rfl ?_
  refine K_call c110 rfl rfl (siidx_spec f cap p xs _ H hv hl hcal hp) ?_
  rintro _ V' hle ⟨i, rfl, hi⟩
  refine KV (R_cmp rfl rfl rfl) rfl ?_
  refine KV (R_assign rfl) rfl ?_
  refine K_nil ?_
  refine Q_then ?_
  refine K_ret ?_
  refine results_gen (rs := [.tmp 4]) (vs := [_]) rfl ⟨rfl, trivial⟩ ?_
  refine congrArg Value.bool ?_
  by_cases h : 0 ≤ i
  · rw [decide_eq_true h]; exact (List.any_eq_true.2 (hi.1 h)).symm
  · rw [decide_eq_false h]; exact (Bool.eq_false_iff.2 fun h2 => h (hi.2 (List.any_eq_true.1 h2))).symm

theorem saidx_spec (f : Nat) (cap : List Value) (p : Int → Bool) (xs : List Int) (v : Value) (H : View) (hv : SI H v xs) (hl : xs.length ≤ 1099511627776) (hcal : callable Tryz.prog f = true)
    (hp : ∀ x V, x ∈ xs → VLe H V → Sat Tryz.prog f ([] ++ [Value.int .i64 x] ++ cap).toArray V (fun r _ => r = .bool (p x))) :
    Sat Tryz.prog F112 #[v, .func (.func f) #[] cap.toArray] H (fun r _ => ∃ i : Int, r = .int .i64 i ∧ (0 ≤ i ↔ ∃ x ∈ xs, p x = true)) := by
  obtain ⟨a, cp, rfl⟩ := hv.shape
  refine enterO (n := 19) (args := [.slice a xs.length cp, .func (.func f) #[] cap.toArray]) Tryz.func137 rfl rfl rfl fun w0 => ?_
  refine K_seq ?_
  refine K_region ?_
  refine KV (R_assign rfl) rfl ?_
  refine K_nil ?_
  refine Q_then ?_
  refine K_seq ?_
  refine K_seq ?_
  refine K_region ?_
  refine KV (R_move rfl) rfl ?_
  refine KV (R_len sl47 rfl) rfl ?_
  refine KV (R_move rfl) rfl ?_
  refine K_nil ?_
  refine Q_then ?_
  refine K_block ?_
  refine K_loop (G := Nat × View) ⟨fun g => [(0, .slice a xs.length cp), (1, .func (.func f) #[] cap.toArray), (7, .int .i64 xs.length), (8, .int .i64 (g.1 : Int))], fun g => [], fun g => g.2, fun g => g.1 ≤ xs.length ∧ VLe H g.2 ∧ ∀ j (h : j < xs.length), j < g.1 → p xs[j] = false, fun g => xs.length - g.1⟩ (0, H) ⟨Nat.zero_le _, VLe.refl H, fun j _ h => by simp at h⟩ ⟨rfl, rfl, rfl, rfl, trivial⟩ rfl rfl ?_
  rintro ⟨k, V⟩ ⟨hk, hV, hno⟩
  dsimp only at hk hV hno ⊢
  refine K_seq ?_
  refine K_region ?_
  refine KV (R_cmp rfl rfl rfl) rfl ?_
  refine K_nil ?_
  refine Q_then ?_
  refine K_seq ?_
  refine K_if rfl (fun h9 => ?_) (fun h9 => ?_)
  ·
    have hk' : k < xs.length := by omega
    obtain ⟨tb, to_, rfl, hta⟩ := (hv.mono hV).get hk'
    refine K_skip ?_
    refine Q_then ?_
    refine K_seq ?_
    refine K_block ?_
    refine K_seq ?_
    refine K_region ?_
    refine KV (R_move rfl) rfl ?_
    refine KV (R_assign rfl) rfl ?_
    refine K_nil ?_
    refine Q_then ?_
    refine K_seq ?_
    refine K_region ?_
    refine KV (R_move rfl) rfl ?_
    refine KV (R_move rfl) rfl ?_
    refine KV (R_move rfl) rfl ?_
    refine KV (R_indexN sl47 ty3 rfl rfl (by omega)) rfl ?_
    refine KV (R_loadH ty3 rfl (hta) rfl (fun _ => rfl) rfl) rfl ?_
    refine K_callO (first := []) [] [] (List.Perm.refl _) hcal rfl rfl rfl (hp xs[k] V (List.getElem_mem hk') hV) ?_
    rintro _ V' q hle rfl
    refine KO_own [] (List.nil_sublist _) ?_
    refine K_nil ?_
    refine Q_then ?_
    refine K_ifB rfl (fun h16 => ?_) (fun h16 => ?_)
    ·
      refine K_seq ?_
      refine K_region ?_
      refine KV (R_move rfl) rfl ?_
      refine KV (R_assign rfl) rfl ?_
      refine K_nil ?_
      refine Q_then ?_
      refine K_ret ?_
      refine Q_block_ret ?_
      refine Q_then_ret ?_
      refine Q_then_ret ?_
      refine Q_block_ret ?_
      refine Q_then_ret ?_
      refine results_gen (rs := [.tmp 4]) (vs := [_]) rfl ⟨rfl, trivial⟩ ?_
      exact ⟨k, rfl, ⟨fun _ => ⟨_, List.getElem_mem hk', h16⟩, fun _ => by omega⟩⟩
    ·
      have hno2 : ∀ j (h : j < xs.length), j < k + 1 → p xs[j] = false := by
        intro j h hj
        by_cases e : j = k
        · subst e; exact h16
        · exact hno j h (by omega)
      refine K_skip ?_
      refine Q_block ?_
      refine Q_then ?_
      refine K_region ?_
      refine KV (R_add rfl rfl (by omega)) rfl ?_
      refine KV (R_move rfl) rfl ?_
      refine K_nil ?_
      exact Q_next (k + 1, V') ⟨hk', hV.trans hle, hno2⟩ (by dsimp only; omega) ⟨rfl, rfl, rfl, rfl, trivial⟩ rfl rfl
  ·
    have hk' : k = xs.length := by omega
    refine K_exit ?_
    refine Q_then_exit ?_
    refine Q_then_exit ?_
    refine Q_block_exit ?_
    refine Q_then ?_
    refine K_seq ?_
    refine K_region ?_
    refine KV (R_assign rfl) rfl ?_
    refine K_nil ?_
    refine Q_then ?_
    refine K_ret ?_
    refine results_gen (rs := [.tmp 4]) (vs := [_]) rfl ⟨rfl, trivial⟩ ?_
    refine ⟨-1, rfl, ⟨fun h => by omega, ?_⟩⟩
    rintro ⟨x, hx, hpx⟩
    obtain ⟨j, hj, rfl⟩ := List.getElem_of_mem hx
    rw [hno j hj (by omega)] at hpx; cases hpx

theorem sacon_spec (f : Nat) (cap : List Value) (p : Int → Bool) (xs : List Int) (v : Value) (H : View) (hv : SI H v xs) (hl : xs.length ≤ 1099511627776) (hcal : callable Tryz.prog f = true)
    (hp : ∀ x V, x ∈ xs → VLe H V → Sat Tryz.prog f ([] ++ [Value.int .i64 x] ++ cap).toArray V (fun r _ => r = .bool (p x))) :
    Sat Tryz.prog F95 #[v, .func (.func f) #[] cap.toArray] H (fun r _ => r = .bool (xs.any p)) := by
  obtain ⟨a, cp, rfl⟩ := hv.shape
  refine enterO (n := 9) (args := [.slice a xs.length cp, .func (.func f) #[] cap.toArray]) Tryz.func89 rfl rfl rfl fun w0 => ?_
  refine K_seq ?_
  refine K_region ?_
  refine KV (R_assign rfl) rfl ?_
  refine K_nil ?_
  refine Q_then ?_
  refine K_seq ?_
  refine K_region ?_
  refine KV (R_move rfl) rfl ?_
  refine KV (R_move rfl) rfl ?_
  refine K_call c112 rfl rfl (saidx_spec f cap p xs _ H hv hl hcal hp) ?_
  rintro _ V' hle ⟨i, rfl, hi⟩
  refine KV (R_cmp rfl rfl rfl) rfl ?_
  refine KV (R_assign rfl) rfl ?_
  refine K_nil ?_
  refine Q_then ?_
  refine K_ret ?_
  refine results_gen (rs := [.tmp 4]) (vs := [_]) rfl ⟨rfl, trivial⟩ ?_
  refine congrArg Value.bool ?_
  by_cases h : 0 ≤ i
  · rw [decide_eq_true h]; exact (List.any_eq_true.2 (hi.1 h)).symm
  · rw [decide_eq_false h]; exact (Bool.eq_false_iff.2 fun h2 => h (hi.2 (List.any_eq_true.1 h2))).symm

theorem rank_spec (x : Int) (H : View) : Sat Tryz.prog F96 #[.int .i64 x] H (fun v _ => v = .bool (decide (x < 0 ∨ 2 < x))) := by
  refine enterO (n := 9) (args := [.int .i64 x]) Tryz.func90 rfl rfl rfl fun w0 => ?_
  refine K_seq ?_
  refine K_region ?_
  refine KV (R_assign rfl) rfl ?_
  refine K_nil ?_
  refine Q_then ?_
  refine K_seq ?_
  refine K_region ?_
  refine KV (R_move rfl) rfl ?_
  refine KV (R_cmp rfl rfl rfl) rfl ?_
  refine KV (R_move rfl) rfl ?_
  refine K_split ?_ ?_
  ·
    intro h5
    refine K_gno rfl rfl rfl rfl ?_
    refine K_gno rfl rfl rfl rfl ?_
    refine KV (R_pickT rfl rfl) rfl ?_
    refine KV (R_assign rfl) rfl ?_
    refine K_nil ?_
    refine Q_then ?_
    refine K_ret ?_
    refine results_gen (rs := [.tmp 2]) (vs := [_]) rfl ⟨rfl, trivial⟩ ?_
    simp [tupV, h5]
  ·
    intro h5
    refine K_gyes rfl rfl ?_
    refine KV (R_move rfl) rfl ?_
    refine K_gyes rfl rfl ?_
    refine KV (R_cmp rfl rfl rfl) rfl ?_
    refine KV (R_pickF rfl rfl) rfl ?_
    refine KV (R_assign rfl) rfl ?_
    refine K_nil ?_
    refine Q_then ?_
    refine K_ret ?_
    refine results_gen (rs := [.tmp 2]) (vs := [_]) rfl ⟨rfl, trivial⟩ ?_
    simp [tupV, h5]

theorem idx_spec (y : Int) (xs : List Int) (v : Value) (H : View) (hv : SI H v xs) (hl : xs.length ≤ 1099511627776) : Sat Tryz.prog F113 #[v, .int .i64 y] H (fun r _ => ∃ i : Int, r = .int .i64 i ∧ (0 ≤ i ↔ y ∈ xs)) := by
  obtain ⟨a, cp, rfl⟩ := hv.shape
  refine enterO (n := 19) (args := [.slice a xs.length cp, .int .i64 y]) Tryz.func138 rfl rfl rfl fun w0 => ?_
  refine K_seq ?_
  refine K_region ?_
  refine KV (R_assign rfl) rfl ?_
  refine K_nil ?_
  refine Q_then ?_
  refine K_seq ?_
  refine K_seq ?_
  refine K_region ?_
  refine KV (R_move rfl) rfl ?_
  refine KV (R_len sl47 rfl) rfl ?_
  refine KV (R_move rfl) rfl ?_
  refine K_nil ?_
  refine Q_then ?_
  refine K_block ?_
  refine K_loop (G := Nat) ⟨fun g => [(0, .slice a xs.length cp), (1, .int .i64 y), (7, .int .i64 xs.length), (8, .int .i64 (g : Int))], fun g => [], fun g => H, fun g => g ≤ xs.length ∧ ∀ j (h : j < xs.length), j < g → xs[j] ≠ y, fun g => xs.length - g⟩ 0 ⟨Nat.zero_le _, fun j _ h => by simp at h⟩ ⟨rfl, rfl, rfl, rfl, trivial⟩ rfl rfl ?_
  rintro k ⟨hk, hno⟩
  dsimp only at hk hno ⊢
  refine K_seq ?_
  refine K_region ?_
  refine KV (R_cmp rfl rfl rfl) rfl ?_
  refine K_nil ?_
  refine Q_then ?_
  refine K_seq ?_
  refine K_if rfl (fun h9 => ?_) (fun h9 => ?_)
  ·
    have hk' : k < xs.length := by omega
    obtain ⟨tb, to_, rfl, hta⟩ := hv.get hk'
    refine K_skip ?_
    refine Q_then ?_
    refine K_seq ?_
    refine K_block ?_
    refine K_seq ?_
    refine K_region ?_
    refine KV (R_move rfl) rfl ?_
    refine KV (R_assign rfl) rfl ?_
    refine K_nil ?_
    refine Q_then ?_
    refine K_seq ?_
    refine K_region ?_
    refine KV (R_move rfl) rfl ?_
    refine KV (R_move rfl) rfl ?_
    refine KV (R_move rfl) rfl ?_
    refine KV (R_indexN sl47 ty3 rfl rfl (by omega)) rfl ?_
    refine KV (R_loadH ty3 rfl (hta) rfl (fun _ => rfl) rfl) rfl ?_
    refine KV (R_cmp rfl rfl rfl) rfl ?_
    refine K_nil ?_
    refine Q_then ?_
    refine K_if rfl (fun h16 => ?_) (fun h16 => ?_)
    ·
      refine K_seq ?_
      refine K_region ?_
      refine KV (R_move rfl) rfl ?_
      refine KV (R_assign rfl) rfl ?_
      refine K_nil ?_
      refine Q_then ?_
      refine K_ret ?_
      refine Q_block_ret ?_
      refine Q_then_ret ?_
      refine Q_then_ret ?_
      refine Q_block_ret ?_
      refine Q_then_ret ?_
      refine results_gen (rs := [.tmp 4]) (vs := [_]) rfl ⟨rfl, trivial⟩ ?_
      exact ⟨k, rfl, ⟨fun _ => h16 ▸ List.getElem_mem hk', fun _ => by omega⟩⟩
    ·
      have hno2 : ∀ j (h : j < xs.length), j < k + 1 → xs[j] ≠ y := by
        intro j h hj
        by_cases e : j = k
        · subst e; exact fun e => h16 e.symm
        · exact hno j h (by omega)
      refine K_skip ?_
      refine Q_block ?_
      refine Q_then ?_
      refine K_region ?_
      refine KV (R_add rfl rfl (by omega)) rfl ?_
      refine KV (R_move rfl) rfl ?_
      refine K_nil ?_
      exact Q_next (k + 1) ⟨hk', hno2⟩ (by dsimp only; omega) ⟨rfl, rfl, rfl, rfl, trivial⟩ rfl rfl
  ·
    have hk' : k = xs.length := by omega
    refine K_exit ?_
    refine Q_then_exit ?_
    refine Q_then_exit ?_
    refine Q_block_exit ?_
    refine Q_then ?_
    refine K_seq ?_
    refine K_region ?_
    refine KV (R_assign rfl) rfl ?_
    refine K_nil ?_
    refine Q_then ?_
    refine K_ret ?_
    refine results_gen (rs := [.tmp 4]) (vs := [_]) rfl ⟨rfl, trivial⟩ ?_
    refine ⟨-1, rfl, ⟨fun h => by omega, ?_⟩⟩
    intro hx
    obtain ⟨j, hj, e⟩ := List.getElem_of_mem hx
    exact absurd e (hno j hj (by omega))

theorem mem_spec (y : Int) (xs : List Int) (v : Value) (H : View) (hv : SI H v xs) (hl : xs.length ≤ 1099511627776) : Sat Tryz.prog F97 #[v, .int .i64 y] H (fun r _ => r = .bool (decide (y ∈ xs))) := by
  obtain ⟨a, cp, rfl⟩ := hv.shape
  refine enterO (n := 9) (args := [.slice a xs.length cp, .int .i64 y]) Tryz.func91 rfl rfl rfl fun w0 => ?_
  refine K_seq ?_
  refine K_region ?_
  refine KV (R_assign rfl) rfl ?_
  refine K_nil ?_
  refine Q_then ?_
  refine K_seq ?_
  refine K_region ?_
  refine KV (R_move rfl) rfl ?_
  refine KV (R_move rfl) rfl ?_
  refine K_call c113 rfl rfl (idx_spec y xs _ H hv hl) ?_
  rintro _ V' hle ⟨i, rfl, hi⟩
  refine KV (R_cmp rfl rfl rfl) rfl ?_
  refine KV (R_assign rfl) rfl ?_
  refine K_nil ?_
  refine Q_then ?_
  refine K_ret ?_
  refine results_gen (rs := [.tmp 4]) (vs := [_]) rfl ⟨rfl, trivial⟩ ?_
  refine congrArg Value.bool ?_
  simp only [decide_eq_decide]
  exact hi

theorem acheck_spec (xs : List Int) (v : Value) (H : View) (hv : SI H v xs) (hl : xs.length ≤ 1099511627776) : Sat Tryz.prog F72 #[v] H (fun r _ => r = .int .i64 (ranksErr xs)) := by
  obtain ⟨a, cp, rfl⟩ := hv.shape
  refine enterO (n := 19) (args := [.slice a xs.length cp]) Tryz.func41 rfl rfl rfl fun w0 => ?_
  refine K_seq ?_
  refine K_region ?_
  refine KV (R_assign rfl) rfl ?_
  refine K_nil ?_
  refine Q_then ?_
  refine K_seq ?_
  refine K_block ?_
  refine K_seq ?_
  refine K_region ?_
  refine KV (R_move rfl) rfl ?_
  refine KV (R_len sl47 rfl) rfl ?_
  refine KV (R_cmp rfl rfl rfl) rfl ?_
  refine KV (R_move rfl) rfl ?_
  refine K_split ?_ ?_
  ·
    intro h7
    refine K_gno rfl rfl rfl rfl ?_
    refine K_gno rfl rfl rfl rfl ?_
    refine K_gno rfl rfl rfl rfl ?_
    refine KV (R_pickT rfl rfl) rfl ?_
    refine KV (R_assign rfl) rfl ?_
    refine K_nil ?_
    refine Q_then ?_
    refine K_ifT rfl ?_
    refine K_seq ?_
    refine K_region ?_
    refine KV (R_assign rfl) rfl ?_
    refine K_nil ?_
    refine Q_then ?_
    refine K_ret ?_
    refine Q_block_ret ?_
    refine Q_then_ret ?_
    refine results_gen (rs := [.tmp 2]) (vs := [_]) rfl ⟨rfl, trivial⟩ ?_
    simp only [tupV, ranksErr]
    rw [if_pos (.inl h7)]
  ·
    intro h7
    refine K_gyes rfl rfl ?_
    refine KV (R_move rfl) rfl ?_
    refine K_gyes rfl rfl ?_
    refine KV (R_len sl47 rfl) rfl ?_
    refine K_gyes rfl rfl ?_
    refine KV (R_cmp rfl rfl rfl) rfl ?_
    refine KV (R_pickF rfl rfl) rfl ?_
    refine K_split ?_ ?_
    ·
      intro h11
      refine KV (R_assign rfl) rfl ?_
      refine K_nil ?_
      refine Q_then ?_
      refine K_ifT rfl ?_
      refine K_seq ?_
      refine K_region ?_
      refine KV (R_assign rfl) rfl ?_
      refine K_nil ?_
      refine Q_then ?_
      refine K_ret ?_
      refine Q_block_ret ?_
      refine Q_then_ret ?_
      refine results_gen (rs := [.tmp 2]) (vs := [_]) rfl ⟨rfl, trivial⟩ ?_
      simp only [tupV, ranksErr]
      rw [if_pos (.inr h11)]
    ·
      intro h11
      refine KV (R_assign rfl) rfl ?_
      refine K_nil ?_
      refine Q_then ?_
      refine K_ifF rfl ?_
      refine K_seq ?_
      refine K_region ?_
      refine KV (R_move rfl) rfl ?_
      refine K_call c95 rfl rfl (sacon_spec F96 [] (fun x => decide (x < 0 ∨ 2 < x)) xs _ H hv hl c96 (fun x V _ _ => rank_spec x V)) ?_
      rintro _ V1 hle1 rfl
      refine KV (R_assign rfl) rfl ?_
      refine K_nil ?_
      refine Q_then ?_
      refine K_ifB rfl (fun h12 => ?_) (fun h12 => ?_)
      ·
        refine K_seq ?_
        refine K_region ?_
        refine KV (R_assign rfl) rfl ?_
        refine K_nil ?_
        refine Q_then ?_
        refine K_ret ?_
        refine Q_block_ret ?_
        refine Q_then_ret ?_
        refine results_gen (rs := [.tmp 2]) (vs := [_]) rfl ⟨rfl, trivial⟩ ?_
        simp only [tupV, ranksErr]
        rw [if_neg (by omega), if_pos h12]
      ·
        refine K_seq ?_
        refine K_region ?_
        refine KV (R_move rfl) rfl ?_
        refine K_call c97 rfl rfl (mem_spec 0 xs _ V1 (hv.mono hle1) hl) ?_
        rintro _ V2 hle2 rfl
        refine KV (R_notP rfl) rfl ?_
        refine KV (R_assign rfl) rfl ?_
        refine K_nil ?_
        refine Q_then ?_
        refine K_if rfl (fun h15 => ?_) (fun h15 => ?_)
        ·
          refine K_seq ?_
          refine K_region ?_
          refine KV (R_assign rfl) rfl ?_
          refine K_nil ?_
          refine Q_then ?_
          refine K_ret ?_
          refine Q_block_ret ?_
          refine Q_then_ret ?_
          refine results_gen (rs := [.tmp 2]) (vs := [_]) rfl ⟨rfl, trivial⟩ ?_
          simp only [tupV, ranksErr]
          rw [if_neg (by omega), if_neg (by rw [h12]; simp), if_pos h15]
        ·
          refine K_skip ?_
          refine Q_block ?_
          refine Q_then ?_
          refine K_seq ?_
          refine K_region ?_
          refine KV (R_assign rfl) rfl ?_
          refine K_nil ?_
          refine Q_then ?_
          refine K_ret ?_
          refine results_gen (rs := [.tmp 2]) (vs := [_]) rfl ⟨rfl, trivial⟩ ?_
          simp only [tupV, ranksErr]
          rw [if_neg (by omega), if_neg (by rw [h12]; simp), if_neg h15]

theorem nhas_spec (vr vu vf : Value) (n q : Int) (H : View) : Sat Tryz.prog F101 #[.agg #[vr, .int .i64 n, vu, vf], .int .i64 q] H (fun r _ => r = .bool (decide (0 ≤ q ∧ q < n))) := by
  refine enterO (n := 13) (args := [.agg #[vr, .int .i64 n, vu, vf], .int .i64 q]) Tryz.func142 rfl rfl rfl fun w0 => ?_
  refine K_seq ?_
  refine K_region ?_
  refine KA (A_box rfl) rfl fun b2 => ?_
  refine KV (R_assign rfl) rfl ?_
  refine K_nil ?_
  refine Q_then ?_
  refine K_seq ?_
  refine K_region ?_
  refine KV (R_move rfl) rfl ?_
  refine KV (R_cmp rfl rfl rfl) rfl ?_
  refine KV (R_move rfl) rfl ?_
  refine K_split ?_ ?_
  ·
    intro h7
    refine K_gyes rfl rfl ?_
    refine KV (R_move rfl) rfl ?_
    refine K_gyes rfl rfl ?_
    refine KV (R_fieldAddr 1 fd50_1 rfl) rfl ?_
    refine K_gyes rfl rfl ?_
    refine KV (R_loadO ty3 0 rfl rfl rfl rfl (fun _ => rfl) rfl) rfl ?_
    refine K_gyes rfl rfl ?_
    refine KV (R_cmp rfl rfl rfl) rfl ?_
    refine KV (R_pickT rfl rfl) rfl ?_
    refine KV (R_assign rfl) rfl ?_
    refine K_nil ?_
    refine Q_then ?_
    refine K_ret ?_
    refine results_gen (rs := [.tmp 4]) (vs := [_]) rfl ⟨rfl, trivial⟩ ?_
    simp [tupV, h7]
  ·
    intro h7
    refine K_gno rfl rfl rfl rfl ?_
    refine K_gno rfl rfl rfl rfl ?_
    refine K_gno rfl rfl rfl rfl ?_
    refine K_gno rfl rfl rfl rfl ?_
    refine KV (R_pickF rfl rfl) rfl ?_
    refine KV (R_assign rfl) rfl ?_
    refine K_nil ?_
    refine Q_then ?_
    refine K_ret ?_
    refine results_gen (rs := [.tmp 4]) (vs := [_]) rfl ⟨rfl, trivial⟩ ?_
    simp [tupV, h7]

theorem nbad_spec (vr vu vf : Value) (n : Int) (b : Nat) (q : Int) (H : View) (hb : At H b 0 [vr, .int .i64 n, vu, vf]) : Sat Tryz.prog F100 #[.int .i64 q, ptr b] H (fun r _ => r = .bool (badQ n q)) := by
  refine enterO (n := 8) (args := [.int .i64 q, ptr b]) Tryz.func141 rfl rfl rfl fun w0 => ?_
  refine K_seq ?_
  refine K_region ?_
  refine KV (R_assign rfl) rfl ?_
  refine K_nil ?_
  refine Q_then ?_
  refine K_seq ?_
  refine K_region ?_
  refine KV (R_loadH ty50 rfl (hb) rfl (fun e => by cases e) rfl) rfl ?_
  refine KV (R_move rfl) rfl ?_
  refine K_call c101 rfl rfl (nhas_spec vr vu vf n q H) ?_
  rintro _ V' hle rfl
  refine KV (R_not rfl) rfl ?_
  refine KV (R_assign rfl) rfl ?_
  refine K_nil ?_
  refine Q_then ?_
  refine K_ret ?_
  refine results_gen (rs := [.tmp 3]) (vs := [_]) rfl ⟨rfl, trivial⟩ ?_
  rfl

theorem ncheck_spec (a : Au) (vr vu vf : Value) (H : View) (ha : RepAu H a vr vu vf) : Sat Tryz.prog F77 #[.agg #[vr, .int .i64 a.states, vu, vf]] H (fun r _ => r = .int .i64 (auErr a)) := by
  obtain ⟨ra, rcp, rfl⟩ := ha.r.shape
  obtain ⟨fa, fcp, rfl⟩ := ha.f.shape
  obtain ⟨ua, ucp, rfl⟩ := ha.ushape
  have hrl := ha.rl
  have hul := ha.ul
  have hfl := ha.fl
  refine enterO (n := 74) (args := [.agg #[.slice ra a.ranks.length rcp, .int .i64 a.states, .slice ua a.rules.length ucp, .slice fa a.final.length fcp]]) Tryz.func94 rfl rfl rfl fun w0 => ?_
  refine K_seq ?_
  refine K_region ?_
  refine KA (A_box rfl) rfl fun b1 => ?_
  refine KV (R_assign rfl) rfl ?_
  refine K_nil ?_
  refine KQ_pubblk (by intro x hx; simp [feet] at hx) fun V0 hle0 hb1 => ?_
  have hA := At.of hb1
  have hA0 := hA.one (j := 0) rfl
  have hA1 := hA.one (j := 1) rfl
  have hA2 := hA.one (j := 2) rfl
  have hA3 := hA.one (j := 3) rfl
  refine Q_then ?_
  refine K_seq ?_
  refine K_seq ?_
  refine K_region ?_
  refine KV (R_fieldAddr 0 fd50_0 rfl) rfl ?_
  refine KV (R_loadH ty47 rfl (hA0) rfl (fun _ => rfl) rfl) rfl ?_
  refine K_call c72 rfl rfl (acheck_spec a.ranks _ V0 (ha.r.mono hle0) hrl) ?_
  rintro _ V1 hle1 rfl
  refine KV (R_assign rfl) rfl ?_
  refine K_nil ?_
  refine Q_then ?_
  refine K_seq ?_
  refine K_region ?_
  refine KV (R_move rfl) rfl ?_
  refine KV (R_cmp rfl rfl rfl) rfl ?_
  refine K_nil ?_
  refine Q_then ?_
  refine K_if rfl (fun h11 => ?_) (fun h11 => ?_)
  ·
    refine K_seq ?_
    refine K_region ?_
    refine KV (R_move rfl) rfl ?_
    refine KV (R_assign rfl) rfl ?_
    refine K_nil ?_
    refine Q_then ?_
    refine K_ret ?_
    refine Q_then_ret ?_
    refine results_gen (rs := [.tmp 2]) (vs := [_]) rfl ⟨rfl, trivial⟩ ?_
    simp only [tupV, auErr]
    rw [if_pos h11]
  ·
    refine K_skip ?_
    refine Q_then ?_
    refine K_seq ?_
    refine K_seq ?_
    refine K_region ?_
    refine KV (R_fieldAddr 1 fd50_1 rfl) rfl ?_
    refine KV (R_loadH ty3 rfl (hA1.mono hle1) rfl (fun _ => rfl) rfl) rfl ?_
    refine KV (R_cmp rfl rfl rfl) rfl ?_
    refine KV (R_move rfl) rfl ?_
    refine K_split ?_ ?_
    ·
      intro h16
      refine K_gno rfl rfl rfl rfl ?_
      refine K_gno rfl rfl rfl rfl ?_
      refine K_gno rfl rfl rfl rfl ?_
      refine KV (R_pickT rfl rfl) rfl ?_
      refine KV (R_move rfl) rfl ?_
      refine K_gno rfl rfl rfl rfl ?_
      refine K_gno rfl rfl rfl rfl ?_
      refine K_gno rfl rfl rfl rfl ?_
      refine K_gno rfl rfl rfl rfl ?_
      refine KV (R_pickT rfl rfl) rfl ?_
      refine K_nil ?_
      refine Q_then ?_
      refine K_ifT rfl ?_
      refine K_seq ?_
      refine K_region ?_
      refine KV (R_assign rfl) rfl ?_
      refine K_nil ?_
      refine Q_then ?_
      refine K_ret ?_
      refine Q_then_ret ?_
      refine results_gen (rs := [.tmp 2]) (vs := [_]) rfl ⟨rfl, trivial⟩ ?_
      simp only [tupV, auErr]
      rw [if_neg h11, if_pos (.inl h16)]
    ·
      intro h16
      refine K_gyes rfl rfl ?_
      refine KV (R_fieldAddr 1 fd50_1 rfl) rfl ?_
      refine K_gyes rfl rfl ?_
      refine KV (R_loadH ty3 rfl (hA1.mono hle1) rfl (fun _ => rfl) rfl) rfl ?_
      refine K_gyes rfl rfl ?_
      refine KV (R_cmp rfl rfl rfl) rfl ?_
      refine KV (R_pickF rfl rfl) rfl ?_
      refine KV (R_move rfl) rfl ?_
      refine K_split ?_ ?_
      ·
        intro h21
        refine K_gno rfl rfl rfl rfl ?_
        refine K_gno rfl rfl rfl rfl ?_
        refine K_gno rfl rfl rfl rfl ?_
        refine K_gno rfl rfl rfl rfl ?_
        refine KV (R_pickT rfl rfl) rfl ?_
        refine K_nil ?_
        refine Q_then ?_
        refine K_ifT rfl ?_
        refine K_seq ?_
        refine K_region ?_
        refine KV (R_assign rfl) rfl ?_
        refine K_nil ?_
        refine Q_then ?_
        refine K_ret ?_
        refine Q_then_ret ?_
        refine results_gen (rs := [.tmp 2]) (vs := [_]) rfl ⟨rfl, trivial⟩ ?_
        simp only [tupV, auErr]
        rw [if_neg h11, if_pos (.inr (.inl h21))]
      ·
        intro h21
        refine K_gyes rfl rfl ?_
        refine KV (R_fieldAddr 2 fd50_2 rfl) rfl ?_
        refine K_gyes rfl rfl ?_
        refine KV (R_loadH ty48 rfl (hA2.mono hle1) rfl (fun _ => rfl) rfl) rfl ?_
        refine K_gyes rfl rfl ?_
        refine KV (R_len sl48 rfl) rfl ?_
        refine K_gyes rfl rfl ?_
        refine KV (R_cmp rfl rfl rfl) rfl ?_
        refine KV (R_pickF rfl rfl) rfl ?_
        refine K_nil ?_
        refine Q_then ?_
        refine K_if rfl (fun h26 => ?_) (fun h26 => ?_)
        ·
          refine K_seq ?_
          refine K_region ?_
          refine KV (R_assign rfl) rfl ?_
          refine K_nil ?_
          refine Q_then ?_
          refine K_ret ?_
          refine Q_then_ret ?_
          refine results_gen (rs := [.tmp 2]) (vs := [_]) rfl ⟨rfl, trivial⟩ ?_
          simp only [tupV, auErr]
          rw [if_neg h11, if_pos (.inr (.inr h26))]
        ·
          refine K_skip ?_
          refine Q_then ?_
          refine K_seq ?_
          refine K_region ?_
          refine KV (R_makeFunc rfl rfl) rfl ?_
          refine KV (R_assign rfl) rfl ?_
          refine K_nil ?_
          refine Q_then ?_
          refine K_seq ?_
          refine K_seq ?_
          refine K_region ?_
          refine KV (R_fieldAddr 2 fd50_2 rfl) rfl ?_
          refine KV (R_loadH ty48 rfl (hA2.mono hle1) rfl (fun _ => rfl) rfl) rfl ?_
          refine KV (R_len sl48 rfl) rfl ?_
          refine KV (R_move rfl) rfl ?_
          refine K_nil ?_
          refine Q_then ?_
          refine K_block ?_
          refine K_loop (G := Nat × View) ⟨fun g => [(1, ptr b1), (4, .func (.func F100) #[] #[ptr b1]), (29, .slice ua a.rules.length ucp), (30, .int .i64 a.rules.length), (31, .int .i64 (g.1 : Int))], fun g => [], fun g => g.2, fun g => g.1 ≤ a.rules.length ∧ VLe V0 g.2 ∧ ∀ j (hj : j < a.rules.length), j < g.1 → ruleErr a a.rules[j] = 0, fun g => a.rules.length - g.1⟩ (0, V1) ⟨Nat.zero_le _, hle1, fun j _ h => by simp at h⟩ ⟨rfl, rfl, rfl, rfl, rfl, trivial⟩ rfl rfl ?_
          rintro ⟨k, V⟩ ⟨hk, hV, hno⟩
          dsimp only at hk hV hno ⊢
          have hbase : auErr a = if rulesErr a a.rules ≠ 0 then rulesErr a a.rules else if (a.final.any (badQ a.states)) = true then 2 else 0 := by
            unfold auErr
            rw [if_neg h11, if_neg (by omega)]
          refine K_seq ?_
          refine K_region ?_
          refine KV (R_cmp rfl rfl rfl) rfl ?_
          refine K_nil ?_
          refine Q_then ?_
          refine K_seq ?_
          refine K_if rfl (fun h32 => ?_) (fun h32 => ?_)
          ·
            have hk' : k < a.rules.length := by omega
            obtain ⟨ub, uo, ucp2, xa, xcp, hue, hrc, hsr, hsym, hto, hal⟩ := (ha.mono (hle0.trans hV)).rule hk'
            cases hue
            have hre : ruleErr a a.rules[k] ≠ 0 → auErr a = ruleErr a a.rules[k] := fun h => by rw [hbase, rulesErr_take hno hk' h, if_pos h]
            refine K_skip ?_
            refine Q_then ?_
            refine K_seq ?_
            refine K_block ?_
            refine K_seq ?_
            refine K_region ?_
            refine KV (R_indexN sl48 ty85 rfl rfl (by omega)) rfl ?_
            refine KV (R_loadH ty85 rfl (hrc) rfl (fun e => by cases e) rfl) rfl ?_
            refine KA (A_alloc z85) rfl fun b6 => ?_
            refine K_store ty85 0 rfl rfl rfl rfl rfl rfl ?_
            refine K_nil ?_
            refine Q_then ?_
            refine K_block ?_
            refine K_seq ?_
            refine K_region ?_
            refine KV (R_fieldAddr 0 fd85_0 rfl) rfl ?_
            refine KV (R_loadO ty3 0 rfl rfl rfl rfl (fun _ => rfl) rfl) rfl ?_
            refine KV (R_cmp rfl rfl rfl) rfl ?_
            refine KV (R_move rfl) rfl ?_
            refine K_split ?_ ?_
            ·
              intro h39
              refine K_gno rfl rfl rfl rfl ?_
              refine K_gno rfl rfl rfl rfl ?_
              refine K_gno rfl rfl rfl rfl ?_
              refine K_gno rfl rfl rfl rfl ?_
              refine K_gno rfl rfl rfl rfl ?_
              refine K_gno rfl rfl rfl rfl ?_
              refine KV (R_pickT rfl rfl) rfl ?_
              refine KV (R_assign rfl) rfl ?_
              refine K_nil ?_
              refine Q_then ?_
              refine K_ifT rfl ?_
              refine K_seq ?_
              refine K_region ?_
              refine KV (R_assign rfl) rfl ?_
              refine K_nil ?_
              refine Q_then ?_
              refine K_ret ?_
              refine Q_block_ret ?_
              refine Q_block_ret ?_
              refine Q_then_ret ?_
              refine Q_then_ret ?_
              refine Q_block_ret ?_
              refine Q_then_ret ?_
              refine results_gen (rs := [.tmp 2]) (vs := [_]) rfl ⟨rfl, trivial⟩ ?_
              have e : ruleErr a a.rules[k] = 6 := by
                simp only [ruleErr]
                rw [if_pos (.inl h39)]
              rw [hre (by rw [e]; decide), e]
              rfl
            ·
              intro h39
              have hs0 : 0 ≤ a.rules[k].sym := by omega
              refine K_gyes rfl rfl ?_
              refine KV (R_fieldAddr 0 fd85_0 rfl) rfl ?_
              refine K_gyes rfl rfl ?_
              refine KV (R_loadO ty3 0 rfl rfl rfl rfl (fun _ => rfl) rfl) rfl ?_
              refine K_gyes rfl rfl ?_
              refine KV (R_fieldAddr 0 fd50_0 rfl) rfl ?_
              refine K_gyes rfl rfl ?_
              refine KV (R_loadH ty47 rfl (hA0.mono hV) rfl (fun _ => rfl) rfl) rfl ?_
              refine K_gyes rfl rfl ?_
              refine KV (R_len sl47 rfl) rfl ?_
              refine K_gyes rfl rfl ?_
              refine KV (R_cmp rfl rfl rfl) rfl ?_
              refine KV (R_pickF rfl rfl) rfl ?_
              refine KV (R_assign rfl) rfl ?_
              refine K_nil ?_
              refine Q_then ?_
              refine K_if rfl (fun h35 => ?_) (fun h35 => ?_)
              ·
                refine K_seq ?_
                refine K_region ?_
                refine KV (R_assign rfl) rfl ?_
                refine K_nil ?_
                refine Q_then ?_
                refine K_ret ?_
                refine Q_block_ret ?_
                refine Q_block_ret ?_
                refine Q_then_ret ?_
                refine Q_then_ret ?_
                refine Q_block_ret ?_
                refine Q_then_ret ?_
                refine results_gen (rs := [.tmp 2]) (vs := [_]) rfl ⟨rfl, trivial⟩ ?_
                have e : ruleErr a a.rules[k] = 6 := by
                  simp only [ruleErr]
                  rw [if_pos (.inr h35)]
                rw [hre (by rw [e]; decide), e]
                rfl
              ·
                have hs1 : a.rules[k].sym < a.ranks.length := by omega
                have hs2 : a.rules[k].sym.toNat < a.ranks.length := by omega
                obtain ⟨rb, ro, rfl, hrk⟩ := (ha.mono (hle0.trans hV)).r.get hs2
                have hgd : a.ranks.getD a.rules[k].sym.toNat 0 = a.ranks[a.rules[k].sym.toNat] := by simp [List.getD, hs2]
                refine K_seq ?_
                refine K_regionD (fin := false) (R := [0, 1, 2, 3, 4, 5, 6, 7, 8, 9, 10]) (by kernel_rfl) mixed (.cons_cons _ (List.nil_sublist _)) ?_
                refine D_val rfl rfl rfl (R_fieldAddr 1 fd85_1 rfl) ?_
                refine D_val rfl rfl rfl (R_loadO ty25 0 rfl rfl rfl rfl (fun _ => rfl) rfl) ?_
                refine D_val rfl rfl rfl (R_len sl25 rfl) ?_
                refine D_val rfl rfl rfl (R_fieldAddr 0 fd50_0 rfl) ?_
                refine D_val rfl rfl rfl (R_loadH ty47 rfl (hA0.mono hV) rfl (fun _ => rfl) rfl) ?_
                refine D_val rfl rfl rfl (R_fieldAddr 0 fd85_0 rfl) ?_
                refine D_val rfl rfl rfl (R_loadO ty3 0 rfl rfl rfl rfl (fun _ => rfl) rfl) ?_
                refine D_val rfl rfl rfl (R_index sl47 ty3 rfl rfl ⟨hs0, hs1⟩) ?_
                refine D_val rfl rfl rfl (R_loadH ty3 rfl (hrk) rfl (fun _ => rfl) rfl) ?_
                refine D_val rfl rfl rfl (R_cmp rfl rfl rfl) ?_
                refine D_val rfl rfl rfl (R_assign rfl) ?_
                refine D_done ?_
                refine Q_then ?_
                refine K_if rfl (fun h47 => ?_) (fun h47 => ?_)
                ·
                  refine K_seq ?_
                  refine K_region ?_
                  refine KV (R_assign rfl) rfl ?_
                  refine K_nil ?_
                  refine Q_then ?_
                  refine K_ret ?_
                  refine Q_block_ret ?_
                  refine Q_block_ret ?_
                  refine Q_then_ret ?_
                  refine Q_then_ret ?_
                  refine Q_block_ret ?_
                  refine Q_then_ret ?_
                  refine results_gen (rs := [.tmp 2]) (vs := [_]) rfl ⟨rfl, trivial⟩ ?_
                  have e : ruleErr a a.rules[k] = 3 := by
                    simp only [ruleErr]
                    rw [if_neg (by omega), hgd, if_pos h47]
                  rw [hre (by rw [e]; decide), e]
                  rfl
                ·
                  refine K_seq ?_
                  refine K_region ?_
                  refine KV (R_fieldAddr 1 fd85_1 rfl) rfl ?_
                  refine KV (R_loadO ty25 0 rfl rfl rfl rfl (fun _ => rfl) rfl) rfl ?_
                  refine KV (R_move rfl) rfl ?_
                  refine K_call c86 rfl rfl (sicon_spec F100 [ptr b1] (badQ a.states) a.rules[k].args _ V hsr hal c100 (fun x W _ hW => nbad_spec _ _ _ a.states b1 x W (hA.mono (hV.trans hW)))) ?_
                  rintro _ V2 hle2 rfl
                  refine KV (R_move rfl) rfl ?_
                  refine K_splitB ?_ ?_
                  ·
                    intro h63
                    refine K_gno rfl rfl rfl rfl ?_
                    refine K_gno rfl rfl rfl rfl ?_
                    refine K_gno rfl rfl rfl rfl ?_
                    refine K_gno rfl rfl rfl rfl ?_
                    refine KV (R_pickT rfl rfl) rfl ?_
                    refine KV (R_assign rfl) rfl ?_
                    refine K_nil ?_
                    refine Q_then ?_
                    refine K_ifT rfl ?_
                    refine K_seq ?_
                    refine K_region ?_
                    refine KV (R_assign rfl) rfl ?_
                    refine K_nil ?_
                    refine Q_then ?_
                    refine K_ret ?_
                    refine Q_block_ret ?_
                    refine Q_block_ret ?_
                    refine Q_then_ret ?_
                    refine Q_then_ret ?_
                    refine Q_block_ret ?_
                    refine Q_then_ret ?_
                    refine results_gen (rs := [.tmp 2]) (vs := [_]) rfl ⟨rfl, trivial⟩ ?_
                    have e : ruleErr a a.rules[k] = 2 := by
                      simp only [ruleErr]
                      rw [if_neg (by omega), hgd, if_neg h47, h63]; rfl
                    rw [hre (by rw [e]; decide), e]
                    rfl
                  ·
                    intro h63
                    refine K_gyes rfl rfl ?_
                    refine KV (R_move rfl) rfl ?_
                    refine K_gyes rfl rfl ?_
                    refine KV (R_fieldAddr 2 fd85_2 rfl) rfl ?_
                    refine K_gyes rfl rfl ?_
                    refine KV (R_loadO ty3 0 rfl rfl rfl rfl (fun _ => rfl) rfl) rfl ?_
                    refine K_gyes rfl rfl ?_
                    refine K_callO (first := []) [] _ (List.Perm.refl _) c100 rfl rfl rfl (nbad_spec _ _ _ a.states b1 a.rules[k].to V2 (hA.mono (hV.trans hle2))) ?_
                    rintro _ V3 q hle3 rfl
                    refine KO_own _ (List.sublist_append_right q _) ?_
                    refine KV (R_pickF rfl rfl) rfl ?_
                    refine KV (R_assign rfl) rfl ?_
                    refine K_nil ?_
                    refine Q_then ?_
                    refine K_ifB rfl (fun h58 => ?_) (fun h58 => ?_)
                    ·
                      refine K_seq ?_
                      refine K_region ?_
                      refine KV (R_assign rfl) rfl ?_
                      refine K_nil ?_
                      refine Q_then ?_
                      refine K_ret ?_
                      refine Q_block_ret ?_
                      refine Q_block_ret ?_
                      refine Q_then_ret ?_
                      refine Q_then_ret ?_
                      refine Q_block_ret ?_
                      refine Q_then_ret ?_
                      refine results_gen (rs := [.tmp 2]) (vs := [_]) rfl ⟨rfl, trivial⟩ ?_
                      have e : ruleErr a a.rules[k] = 2 := by
                        simp only [ruleErr]
                        rw [if_neg (by omega), hgd, if_neg h47, h63, h58]; rfl
                      rw [hre (by rw [e]; decide), e]
                      rfl
                    ·
                      have hno2 : ∀ j (hj : j < a.rules.length), j < k + 1 → ruleErr a a.rules[j] = 0 := by
                        intro j hj hjk
                        by_cases e : j = k
                        · subst e
                          simp only [ruleErr]
                          rw [if_neg (by omega), hgd, if_neg h47, h63, h58]
                          simp
                        · exact hno j hj (by omega)
                      refine K_skip ?_
                      refine Q_block ?_
                      refine Q_block ?_
                      refine Q_then ?_
                      refine K_region ?_
                      refine KV (R_add rfl rfl (by omega)) rfl ?_
                      refine KV (R_move rfl) rfl ?_
                      refine K_nil ?_
                      refine KQ_sel [] rfl ?_
                      exact Q_next (k + 1, V3) ⟨hk', hV.trans (hle2.trans hle3), hno2⟩ (by dsimp only; omega) ⟨rfl, rfl, rfl, rfl, rfl, trivial⟩ rfl rfl
          ·
            have hk' : k = a.rules.length := by omega
            subst hk'
            have hrz : rulesErr a a.rules = 0 := rulesErr_zero fun j hj => hno j hj hj
            rw [hrz, if_neg (by decide)] at hbase
            refine K_exit ?_
            refine Q_then_exit ?_
            refine Q_then_exit ?_
            refine Q_block_exit ?_
            refine Q_then ?_
            refine K_seq ?_
            refine K_seq ?_
            refine K_region ?_
            refine KV (R_fieldAddr 3 fd50_3 rfl) rfl ?_
            refine KV (R_loadH ty25 rfl (hA3.mono hV) rfl (fun _ => rfl) rfl) rfl ?_
            refine KV (R_move rfl) rfl ?_
            refine K_call c86 rfl rfl (sicon_spec F100 [ptr b1] (badQ a.states) a.final _ V ((ha.mono (hle0.trans hV)).f) hfl c100 (fun x W _ hW => nbad_spec _ _ _ a.states b1 x W (hA.mono (hV.trans hW)))) ?_
            rintro _ V2 hle2 rfl
            refine K_nil ?_
            refine Q_then ?_
            refine K_ifB rfl (fun h73 => ?_) (fun h73 => ?_)
            ·
              refine K_seq ?_
              refine K_region ?_
              refine KV (R_assign rfl) rfl ?_
              refine K_nil ?_
              refine Q_then ?_
              refine K_ret ?_
              refine Q_then_ret ?_
              refine results_gen (rs := [.tmp 2]) (vs := [_]) rfl ⟨rfl, trivial⟩ ?_
              rw [hbase, if_pos h73]
              rfl
            ·
              refine K_skip ?_
              refine Q_then ?_
              refine K_seq ?_
              refine K_region ?_
              refine KV (R_assign rfl) rfl ?_
              refine K_nil ?_
              refine Q_then ?_
              refine K_ret ?_
              refine results_gen (rs := [.tmp 2]) (vs := [_]) rfl ⟨rfl, trivial⟩ ?_
              rw [hbase, h73]
              rfl

theorem clip_spec (a : Option Addr) (k cap : Nat) (h : k ≤ cap) (H : View) : Sat Tryz.prog F84 #[.slice a k cap] H (fun v _ => v = .slice a k k) := by
  refine enterO (n := 9) (args := [.slice a k cap]) Tryz.func128 rfl rfl rfl fun w0 => ?_
  refine K_seq ?_
  refine K_region ?_
  refine KV (R_assign rfl) rfl ?_
  refine K_nil ?_
  refine Q_then ?_
  refine K_seq ?_
  refine K_region ?_
  refine KV (R_move rfl) rfl ?_
  refine KV (R_move rfl) rfl ?_
  refine KV (R_len sl25 rfl) rfl ?_
  refine KV (R_move rfl) rfl ?_
  refine KV (R_len sl25 rfl) rfl ?_
  refine KV (R_clip sl25 ty3 rfl rfl rfl h) rfl ?_
  refine KV (R_assign rfl) rfl ?_
  refine K_nil ?_
  refine Q_then ?_
  refine K_ret ?_
  refine results_gen (rs := [.tmp 2]) (vs := [_]) rfl ⟨rfl, trivial⟩ ?_
  simp [tupV]

theorem visit_spec (n k gf : Nat) (cap : List Value) (T : List (List Int)) (E : List (List Int) → HL → Prop) (F : HL → Prop) (H0 : View) (hV : VisitOk Tryz.prog gf cap H0 T E F) (hcal : callable Tryz.prog gf = true) (hk : k ≤ 1099511627776) (hn : n ≤ 1099511627776)
    (b1 b2 b3 b4 : Nat) : ∀ m xs pre a len cp H p, xs.length = len → VLe H0 H → len + m = n → SI H (.slice a len cp) xs → len ≤ cp → E pre p → (pre ++ ext k m xs) <+: T →
    At H b1 0 [.int .i64 (n : Int)] → At H b2 0 [.func (.func gf) #[] cap.toArray] → At H b3 0 [.int .i64 (k : Int)] → At H b4 0 [.func (.func F83) #[] #[ptr b1, ptr b2, ptr b3, ptr b4]] →
    SatO Tryz.prog F83 #[.slice a len cp, ptr b1, ptr b2, ptr b3, ptr b4] H p (fun v _ q => ∃ r : Bool, v = .bool r ∧ (r = true → E (pre ++ ext k m xs) q) ∧ (r = false → F q)) := by
  intro m
  induction m using Nat.strongRecOn with | _ m ih =>
  intro xs pre a len cp H p hlen h0 hm hs hcp hE hpf h1 h2 h3 h4
  refine enterO (n := 28) (args := [.slice a len cp, ptr b1, ptr b2, ptr b3, ptr b4]) Tryz.func127 rfl rfl rfl fun w0 => ?_
  refine K_seq ?_
  refine K_region ?_
  refine KV (R_assign rfl) rfl ?_
  refine K_nil ?_
  refine Q_then ?_
  refine K_seq ?_
  refine K_seq ?_
  refine K_region ?_
  refine KV (R_move rfl) rfl ?_
  refine KV (R_len sl25 rfl) rfl ?_
  refine KV (R_loadH ty3 rfl (h1) rfl (fun _ => rfl) rfl) rfl ?_
  refine KV (R_cmp rfl rfl rfl) rfl ?_
  refine K_nil ?_
  refine Q_then ?_
  refine K_if rfl (fun h11 => ?_) (fun h11 => ?_)
  ·
    have hm0 : m = 0 := by omega
    subst hm0
    refine K_seq ?_
    refine K_region ?_
    refine KV (R_loadH ty108 rfl (h2) rfl (fun _ => rfl) rfl) rfl ?_
    refine KV (R_move rfl) rfl ?_
    refine K_callO (first := []) p [] (by rw [List.append_nil]) hcal rfl rfl rfl (hV H pre xs a len cp p hlen h0 hE hpf hs hcp) ?_
    rintro _ V1 q hle ⟨r, rfl, hr1, hr2⟩
    refine KV (R_assign rfl) rfl ?_
    refine K_nil ?_
    refine Q_then ?_
    refine K_ret ?_
    refine Q_then_ret ?_
    refine results_gen (rs := [.tmp 6]) (vs := [_]) rfl ⟨rfl, trivial⟩ ?_
    refine ⟨r, rfl, ?_, ?_⟩
    · rw [List.append_nil]; exact hr1
    · rw [List.append_nil]; exact hr2
  ·
    obtain ⟨m, rfl⟩ : ∃ m', m = m' + 1 := ⟨m - 1, by omega⟩
    refine K_skip ?_
    refine Q_then ?_
    refine K_seq ?_
    refine K_seq ?_
    refine K_region ?_
    refine KV (R_loadH ty3 rfl (h3) rfl (fun _ => rfl) rfl) rfl ?_
    refine KV (R_move rfl) rfl ?_
    refine K_nil ?_
    refine Q_then ?_
    refine K_block ?_
    refine K_loop (G := Nat × View × HL) ⟨fun g => [(0, .slice a len cp), (1, ptr b1), (2, ptr b2), (3, ptr b3), (4, ptr b4), (15, .int .i64 (k : Int)), (16, .int .i64 (g.1 : Int))], fun g => g.2.2, fun g => g.2.1, fun g => g.1 ≤ k ∧ VLe H g.2.1 ∧ E (pre ++ extTo k m xs g.1) g.2.2, fun g => k - g.1⟩ (0, H, p) ⟨Nat.zero_le _, VLe.refl H, by simpa [extTo] using hE⟩ ⟨rfl, rfl, rfl, rfl, rfl, rfl, rfl, trivial⟩ rfl rfl ?_
    rintro ⟨i, V, p'⟩ ⟨hi0, hV1, hE1⟩
    dsimp only at hi0 hV1 hE1 ⊢
    refine K_seq ?_
    refine K_region ?_
    refine KV (R_cmp rfl rfl rfl) rfl ?_
    refine K_nil ?_
    refine Q_then ?_
    refine K_seq ?_
    refine K_if rfl (fun h17 => ?_) (fun h17 => ?_)
    ·
      have hi : i < k := by omega
      refine K_skip ?_
      refine Q_then ?_
      refine K_seq ?_
      refine K_block ?_
      refine K_seq ?_
      refine K_region ?_
      refine KV (R_move rfl) rfl ?_
      refine KV (R_assign rfl) rfl ?_
      refine K_nil ?_
      refine Q_then ?_
      refine K_seq ?_
      refine K_regionD (fin := false) (R := [0, 1, 3, 2, 4, 5, 6, 7]) (by kernel_rfl) mixed (List.nil_sublist _) ?_
      refine D_val rfl rfl rfl (R_loadH ty108 rfl (h4.mono hV1) rfl (fun _ => rfl) rfl) ?_
      refine D_val rfl rfl rfl (R_move rfl) ?_
      refine D_val rfl rfl rfl (R_move rfl) ?_
      refine D_call rfl rfl c84 rfl trivial (clip_spec a len cp hcp V) ?_
      rintro _ V2 hle2 rfl
      refine D_alloc rfl rfl rfl (A_buildSlice (vs := [.int .i64 (i : Int)]) sl25 ty3 z3 rfl rfl (by simp [Value.cells]) (by simp) rfl (by decide)) fun b23 => ?_
      refine D_appendPub1 ap25 rfl rfl rfl ((hlen ▸ hs.1.mono (hV1.trans hle2)).recap len) (by simp [ints, hlen]) rfl rfl trivial rfl ⟨by omega, by omega⟩ fun v24 V3 hle3 hv24 => ?_
      obtain ⟨hsl, a24, c24, rfl, hc24⟩ := hv24
      refine D_callO (first := []) p' [] rfl rfl c83 rfl rfl (by rw [List.append_nil]) trivial (ih m (by omega) (xs ++ [(i : Int)]) (pre ++ extTo k m xs i) a24 (len + 1) c24 V3 p' (by simp [hlen]) (h0.trans (hV1.trans (hle2.trans hle3))) (by omega) (by subst hlen; exact SI.snoc hs.2 (by omega) hsl) hc24 hE1 ?_ (h1.mono (hV1.trans (hle2.trans hle3))) (h2.mono (hV1.trans (hle2.trans hle3))) (h3.mono (hV1.trans (hle2.trans hle3))) (h4.mono (hV1.trans (hle2.trans hle3)))) ?_
      · exact ext_prefix hi hpf
      rintro _ V4 q hle4 ⟨r, rfl, hr1, hr2⟩
      refine D_val rfl rfl rfl (R_not rfl) ?_
      refine D_done ?_
      refine Q_then ?_
      cases r with
      | false =>
        refine K_ifT rfl ?_
        refine K_seq ?_
        refine K_region ?_
        refine KV (R_assign rfl) rfl ?_
        refine K_nil ?_
        refine Q_then ?_
        refine K_ret ?_
        refine Q_block_ret ?_
        refine Q_then_ret ?_
        refine Q_then_ret ?_
        refine Q_block_ret ?_
        refine Q_then_ret ?_
        refine results_gen (rs := [.tmp 6]) (vs := [_]) rfl ⟨rfl, trivial⟩ ?_
        refine ⟨false, rfl, (fun e => by cases e), fun _ => ?_⟩
        rw [List.append_nil]; exact hr2 rfl
      | true =>
        refine K_ifF rfl ?_
        refine K_skip ?_
        refine Q_block ?_
        refine Q_then ?_
        refine K_region ?_
        refine KV (R_add rfl rfl (by omega)) rfl ?_
        refine KV (R_move rfl) rfl ?_
        refine K_nil ?_
        refine Q_next (i + 1, V4, q) ⟨hi, hV1.trans (hle2.trans (hle3.trans hle4)), ?_⟩ (by dsimp only; omega) ⟨rfl, rfl, rfl, rfl, rfl, rfl, rfl, trivial⟩ (List.append_nil _) rfl
        rw [extTo_succ, ← List.append_assoc]
        exact hr1 rfl
    ·
      have hi : i = k := by omega
      subst hi
      refine K_exit ?_
      refine Q_then_exit ?_
      refine Q_then_exit ?_
      refine Q_block_exit ?_
      refine Q_then ?_
      refine K_seq ?_
      refine K_region ?_
      refine KV (R_assign rfl) rfl ?_
      refine K_nil ?_
      refine Q_then ?_
      refine K_ret ?_
      refine results_gen (rs := [.tmp 6]) (vs := [_]) rfl ⟨rfl, trivial⟩ ?_
      exact ⟨true, rfl, fun _ => hE1, fun e => by cases e⟩

theorem tuples_spec (n k gf : Nat) (cap : List Value) (E : List (List Int) → HL → Prop) (F : HL → Prop) (H : View) (p : HL) (hV : VisitOk Tryz.prog gf cap H (ext k n []) E F) (hcal : callable Tryz.prog gf = true) (hk : k ≤ 1099511627776) (hn : n ≤ 1099511627776) (hE : E [] p) :
    SatO Tryz.prog F48 #[.int .i64 (n : Int), .int .i64 (k : Int), .func (.func gf) #[] cap.toArray] H p (fun v _ q => ∃ r : Bool, v = .bool r ∧ (r = true → E (ext k n []) q) ∧ (r = false → F q)) := by
  refine enterO (n := 11) (args := [.int .i64 (n : Int), .int .i64 (k : Int), .func (.func gf) #[] cap.toArray]) Tryz.func70 rfl rfl rfl fun w0 => ?_
  refine K_seq ?_
  refine K_region ?_
  refine KA (A_box rfl) rfl fun b3 => ?_
  refine KA (A_box rfl) rfl fun b4 => ?_
  refine KA (A_box rfl) rfl fun b5 => ?_
  refine KV (R_assign rfl) rfl ?_
  refine K_nil ?_
  refine Q_then ?_
  refine K_seq ?_
  refine K_region ?_
  refine KA (A_alloc z108) rfl fun b7 => ?_
  refine K_nil ?_
  refine Q_then ?_
  refine K_seq ?_
  refine K_region ?_
  refine KV (R_makeFunc rfl rfl) rfl ?_
  refine K_store ty108 0 rfl rfl rfl rfl rfl rfl ?_
  refine K_nil ?_
  refine KQ_pubblk (by intro x hx; simp only [feet_cons]; simp [hx]) fun V1 hle1 hb7 => ?_
  refine KQ_pubblk (by intro x hx; simp only [feet_cons]; simp [hx]) fun V2 hle2 hb5 => ?_
  refine KQ_pubblk (by intro x hx; simp only [feet_cons]; simp [hx]) fun V3 hle3 hb4 => ?_
  refine KQ_pubblk (by intro x hx; exact hx) fun V4 hle4 hb3 => ?_
  refine Q_then ?_
  refine K_seq ?_
  refine K_region ?_
  refine KV (R_loadH ty108 rfl ((At.of hb7).mono (hle2.trans (hle3.trans hle4))) rfl (fun _ => rfl) rfl) rfl ?_
  refine K_callO (first := []) p [] (by rw [List.append_nil]) c83 rfl rfl rfl (visit_spec n k gf cap (ext k n []) E F H hV hcal hk hn b3 b5 b4 b7 n [] [] none 0 0 V4 p rfl (hle1.trans (hle2.trans (hle3.trans hle4))) (by omega) ⟨⟨none, 0, rfl, .inl ⟨rfl, rfl⟩⟩, by simp⟩ (Nat.le_refl _) hE (List.prefix_refl _) (At.of hb3) ((At.of hb5).mono (hle3.trans hle4)) ((At.of hb4).mono hle4) ((At.of hb7).mono (hle2.trans (hle3.trans hle4)))) ?_
  rintro _ V5 q hle5 ⟨r, rfl, hr1, hr2⟩
  refine KV (R_assign rfl) rfl ?_
  refine K_nil ?_
  refine Q_then ?_
  refine K_ret ?_
  refine results_gen (rs := [.tmp 6]) (vs := [_]) rfl ⟨rfl, trivial⟩ ?_
  refine ⟨r, rfl, ?_, ?_⟩
  · rw [List.append_nil]; exact hr1
  · rw [List.append_nil]; exact hr2
end Go.Proofs.X

namespace Go.Proofs.X
open Go Pal Go.Proofs
attribute [local irreducible] Pal.KO Pal.KC Pal.KQ Pal.KD
theorem ty87 : Ty Tryz.prog T87 false 1 := .of (by kernel_rfl)
theorem ty90 : Ty Tryz.prog T90 false 1 := .of (by kernel_rfl)
theorem ty91 : Ty Tryz.prog T91 false 1 := .of (by kernel_rfl)
theorem ty92 : Ty Tryz.prog T92 false 1 := .of (by kernel_rfl)
theorem ty93 : Ty Tryz.prog T93 false 1 := .of (by kernel_rfl)
theorem ty106 : Ty Tryz.prog T106 true 3 := .of (by kernel_rfl)
theorem sl90 : slcOk Tryz.prog T90 T48 := by unfold slcOk; kernel_rfl
theorem sl92 : slcOk Tryz.prog T92 T98 := by unfold slcOk; kernel_rfl
theorem fd95_0 : fldOk Tryz.prog T95 0 0 = true := by kernel_rfl
theorem fd95_1 : fldOk Tryz.prog T95 1 4 = true := by kernel_rfl
theorem fd95_2 : fldOk Tryz.prog T95 2 5 = true := by kernel_rfl
theorem fd95_3 : fldOk Tryz.prog T95 3 6 = true := by kernel_rfl
theorem fd95_4 : fldOk Tryz.prog T95 4 7 = true := by kernel_rfl
theorem fd106_1 : fldOk Tryz.prog T106 1 1 = true := by kernel_rfl
theorem fd106_2 : fldOk Tryz.prog T106 2 2 = true := by kernel_rfl
theorem z106 : zeroOk Tryz.prog T106 (.agg #[.int .i64 0, .int .i64 0, .int .i64 0]) := .of (by kernel_rfl)
theorem pl106 : placesOk Tryz.prog T106 [(0, 1), (1, 1), (2, 1)] := ⟨_, Tryz.underlying138, by kernel_rfl⟩
theorem c48 : callable Tryz.prog F48 = true := by kernel_rfl
theorem c50 : callable Tryz.prog F50 = true := by kernel_rfl
theorem c102 : callable Tryz.prog F102 = true := by kernel_rfl
theorem c103 : callable Tryz.prog F103 = true := by kernel_rfl
theorem c116 : callable Tryz.prog F116 = true := by kernel_rfl
theorem c120 : callable Tryz.prog F120 = true := by kernel_rfl
theorem ap92 : App Tryz.prog T92 T98 16 128 := .of sl92 (by kernel_rfl)
theorem mt91 : Tryz.prog.underlying T91 = some (.map T98 T3) := by kernel_rfl
theorem mt93 : Tryz.prog.underlying T93 = some (.map T106 T3) := by kernel_rfl
theorem kl106 : WideMaps.KeyLaw Tryz.prog T106 := deep_law_laid (m := 2) (by kernel_rfl) (by decide) (Nat.le_of_ble_eq_true (by kernel_rfl)) (by kernel_rfl) (by kernel_rfl)
theorem tri106 : TriT Tryz.prog T106 T3 := ⟨⟨_, _, _, Tryz.underlying138, ⟨by decide, rfl, rfl⟩, ⟨by decide, rfl, rfl⟩, ⟨by decide, rfl, rfl⟩⟩, by kernel_rfl, by kernel_rfl, by kernel_rfl, by kernel_rfl, kl106, ⟨282, by kernel_rfl⟩⟩
theorem key_spec (sym : Int) (args : List Int) (v : Value) (H : View) (hv : SI H v args) : Sat Tryz.prog F50 #[.int .i64 sym, v] H (fun r _ => r = keyV (keyM sym args)) := by
  obtain ⟨a, cp, rfl⟩ := hv.shape
  refine enterO (n := 23) (args := [.int .i64 sym, .slice a args.length cp]) Tryz.func72 rfl rfl rfl fun w0 => ?_
  refine K_seq ?_
  refine K_region ?_
  refine KA (A_alloc z106) rfl fun b4 => ?_
  refine K_nil ?_
  refine Q_then ?_
  refine K_seq ?_
  refine K_region ?_
  refine KV (R_move rfl) rfl ?_
  refine KV (R_build z106 pl106 rfl rfl) rfl ?_
  refine KA (A_alloc z106) rfl fun b5 => ?_
  refine K_store ty106 0 rfl rfl rfl rfl rfl rfl ?_
  refine K_nil ?_
  refine Q_then ?_
  refine K_seq ?_
  refine K_seq ?_
  refine K_region ?_
  refine KV (R_move rfl) rfl ?_
  refine KV (R_len sl25 rfl) rfl ?_
  refine KV (R_cmp rfl rfl rfl) rfl ?_
  refine K_nil ?_
  refine Q_then ?_
  refine K_if rfl (fun h10 => ?_) (fun h10 => ?_)
  ·
    have hl0 : 0 < args.length := by omega
    obtain ⟨tb, to_, rfl, hta⟩ := hv.get hl0
    refine K_region ?_
    refine KV (R_move rfl) rfl ?_
    refine KV (R_index sl25 ty3 rfl rfl ⟨by omega, by omega⟩) rfl ?_
    refine KV (R_loadH ty3 rfl (hta) rfl (fun _ => rfl) rfl) rfl ?_
    refine KV (R_fieldAddr 1 fd106_1 rfl) rfl ?_
    refine K_store ty3 0 rfl rfl rfl rfl rfl rfl ?_
    refine K_nil ?_
    refine Q_then ?_
    refine K_seq ?_
    refine K_seq ?_
    refine K_region ?_
    refine KV (R_move rfl) rfl ?_
    refine KV (R_len sl25 rfl) rfl ?_
    refine KV (R_cmp rfl rfl rfl) rfl ?_
    refine K_nil ?_
    refine Q_then ?_
    refine K_if rfl (fun h17 => ?_) (fun h17 => ?_)
    ·
      have hl1 : 1 < args.length := by omega
      obtain ⟨tb2, to2, he2, htb⟩ := hv.get hl1
      cases he2
      refine K_region ?_
      refine KV (R_move rfl) rfl ?_
      refine KV (R_index sl25 ty3 rfl rfl ⟨by omega, by omega⟩) rfl ?_
      refine KV (R_loadH ty3 rfl (htb) rfl (fun _ => rfl) rfl) rfl ?_
      refine KV (R_fieldAddr 2 fd106_2 rfl) rfl ?_
      refine K_store ty3 0 rfl rfl rfl rfl rfl rfl ?_
      refine K_nil ?_
      refine Q_then ?_
      refine K_seq ?_
      refine K_region ?_
      refine KV (R_loadO ty106 0 rfl rfl rfl rfl (fun e => by cases e) rfl) rfl ?_
      refine K_store ty106 1 rfl rfl rfl rfl rfl rfl ?_
      refine K_nil ?_
      refine Q_then ?_
      refine K_ret ?_
      refine results_gen (rs := [.cell 4 138]) (vs := [_]) rfl ⟨⟨_, _, _, _, _, _, 1, rfl, rfl, ty106, (fun e => by cases e), rfl, rfl⟩, trivial⟩ ?_
      show Value.agg #[.int .i64 sym, .int .i64 args[0], .int .i64 args[1]] = _
      simp [keyV, keyM, List.getD, hl0, hl1]
    ·
      refine K_skip ?_
      refine Q_then ?_
      refine K_seq ?_
      refine K_region ?_
      refine KV (R_loadO ty106 0 rfl rfl rfl rfl (fun e => by cases e) rfl) rfl ?_
      refine K_store ty106 1 rfl rfl rfl rfl rfl rfl ?_
      refine K_nil ?_
      refine Q_then ?_
      refine K_ret ?_
      refine results_gen (rs := [.cell 4 138]) (vs := [_]) rfl ⟨⟨_, _, _, _, _, _, 1, rfl, rfl, ty106, (fun e => by cases e), rfl, rfl⟩, trivial⟩ ?_
      show Value.agg #[.int .i64 sym, .int .i64 args[0], .int .i64 0] = _
      have hl1 : args.length ≤ 1 := by omega
      simp [keyV, keyM, List.getD, hl0, hl1]
  ·
    refine K_skip ?_
    refine Q_then ?_
    refine K_seq ?_
    refine K_seq ?_
    refine K_region ?_
    refine KV (R_move rfl) rfl ?_
    refine KV (R_len sl25 rfl) rfl ?_
    refine KV (R_cmp rfl rfl rfl) rfl ?_
    refine K_nil ?_
    refine Q_then ?_
    refine K_if rfl (fun h17 => ?_) (fun h17 => ?_)
    ·
      have hl1 : 1 < args.length := by omega
      obtain ⟨tb2, to2, he2, htb⟩ := hv.get hl1
      cases he2
      refine K_region ?_
      refine KV (R_move rfl) rfl ?_
      refine KV (R_index sl25 ty3 rfl rfl ⟨by omega, by omega⟩) rfl ?_
      refine KV (R_loadH ty3 rfl (htb) rfl (fun _ => rfl) rfl) rfl ?_
      refine KV (R_fieldAddr 2 fd106_2 rfl) rfl ?_
      refine K_store ty3 0 rfl rfl rfl rfl rfl rfl ?_
      refine K_nil ?_
      refine Q_then ?_
      refine K_seq ?_
      refine K_region ?_
      refine KV (R_loadO ty106 0 rfl rfl rfl rfl (fun e => by cases e) rfl) rfl ?_
      refine K_store ty106 1 rfl rfl rfl rfl rfl rfl ?_
      refine K_nil ?_
      refine Q_then ?_
      refine K_ret ?_
      refine results_gen (rs := [.cell 4 138]) (vs := [_]) rfl ⟨⟨_, _, _, _, _, _, 1, rfl, rfl, ty106, (fun e => by cases e), rfl, rfl⟩, trivial⟩ ?_
      omega
    ·
      refine K_skip ?_
      refine Q_then ?_
      refine K_seq ?_
      refine K_region ?_
      refine KV (R_loadO ty106 0 rfl rfl rfl rfl (fun e => by cases e) rfl) rfl ?_
      refine K_store ty106 1 rfl rfl rfl rfl rfl rfl ?_
      refine K_nil ?_
      refine Q_then ?_
      refine K_ret ?_
      refine results_gen (rs := [.cell 4 138]) (vs := [_]) rfl ⟨⟨_, _, _, _, _, _, 1, rfl, rfl, ty106, (fun e => by cases e), rfl, rfl⟩, trivial⟩ ?_
      show Value.agg #[.int .i64 sym, .int .i64 0, .int .i64 0] = _
      have hl0 : args = [] := List.eq_nil_of_length_eq_zero (by omega)
      subst hl0
      rfl

theorem succ_spec (a : Au) (subs : List Nat) (sym : Nat) (args : List Int) (B m1 m2 : Nat) (vr vu vf vrules vsub v : Value) (H : View) (hby : RepBy H a vrules) (hvs : subsV vsub subs.length) (hv : SI H v args) (hsym : sym < a.ranks.length)
    (hrl : a.ranks.length ≤ 1099511627776) (hul : (rulesOf a sym).length ≤ 1099511627776) (hral : ∀ r ∈ rulesOf a sym, r.args.length = args.length) (har : ∀ x ∈ args, 0 ≤ x ∧ x < subs.length) :
    SatO Tryz.prog F116 #[ptr B, .int .i64 (sym : Int), v] H [blk B (.cells #[vr, .int .i64 a.states, vu, vf, vrules, mp m1, vsub, mp m2] T95 (0, 0)), row vsub T98 16 subs.length (subCells subs)]
      (fun r _ q => r = setV (succM a subs sym args) ∧ q = [blk B (.cells #[vr, .int .i64 a.states, vu, vf, vrules, mp m1, vsub, mp m2] T95 (0, 0)), row vsub T98 16 subs.length (subCells subs)]) := by
  obtain ⟨aa, acp, rfl⟩ := hv.shape
  obtain ⟨rb, ro, rcp, rfl, hrb⟩ := hby
  obtain ⟨ua, ucp, cells, hua, hus, hur⟩ := hrb sym hsym
  unfold succM
  generalize rulesOf a sym = rs at hul hral hua hus hur ⊢
  refine enterO (n := 56) (args := [ptr B, .int .i64 (sym : Int), .slice aa args.length acp]) Tryz.func190 rfl rfl rfl fun w0 => ?_
  refine K_seq ?_
  refine K_region ?_
  refine KA (A_alloc z98) rfl fun b6 => ?_
  refine K_nil ?_
  refine Q_then ?_
  refine K_seq ?_
  refine K_region ?_
  refine KA (A_alloc z98) rfl fun b7 => ?_
  refine K_nil ?_
  refine Q_then ?_
  refine K_seq ?_
  refine K_seq ?_
  refine K_region ?_
  refine KV (R_move rfl) rfl ?_
  refine KV (R_nilCheck rfl) rfl ?_
  refine KV (R_fieldAddr 4 fd95_1 rfl) rfl ?_
  refine KV (R_loadO ty90 2 rfl rfl rfl rfl (fun _ => rfl) rfl) rfl ?_
  refine KV (R_move rfl) rfl ?_
  refine KV (R_index sl90 ty48 rfl rfl ⟨by omega, by omega⟩) rfl ?_
  refine KV (R_loadH ty48 rfl (hua) rfl (fun _ => rfl) rfl) rfl ?_
  refine KV (R_len sl48 rfl) rfl ?_
  refine KV (R_move rfl) rfl ?_
  refine K_nil ?_
  refine Q_then ?_
  refine K_block ?_
  refine K_loop (G := Nat × View) ⟨fun g => [(0, ptr B), (2, .slice aa args.length acp), (6, ptr b6), (7, ptr b7), (19, .slice ua rs.length ucp), (20, .int .i64 rs.length), (21, .int .i64 (g.1 : Int))], fun g => [blk b7 (.cells (setV (succTo subs args rs g.1)).cells T98 (0, 0)), blk b6 (.cells (setV 0).cells T98 (0, 0)), blk B (.cells #[vr, .int .i64 a.states, vu, vf, .slice (some ⟨rb, ro, none⟩) a.ranks.length rcp, mp m1, vsub, mp m2] T95 (0, 0)), row vsub T98 16 subs.length (subCells subs)], fun g => g.2, fun g => g.1 ≤ rs.length ∧ VLe H g.2, fun g => rs.length - g.1⟩ (0, H) ⟨Nat.zero_le _, VLe.refl H⟩ ⟨rfl, rfl, rfl, rfl, rfl, rfl, rfl, trivial⟩ rfl rfl ?_
  rintro ⟨k, V⟩ ⟨hk, hV⟩
  dsimp only at hk hV ⊢
  refine K_seq ?_
  refine K_region ?_
  refine KV (R_cmp rfl rfl rfl) rfl ?_
  refine K_nil ?_
  refine Q_then ?_
  refine K_seq ?_
  refine K_if rfl (fun h22 => ?_) (fun h22 => ?_)
  ·
    have hk' : k < rs.length := by omega
    obtain ⟨ub, uo, fa, fcp, rfl, hrc, hfs, hsy, hto, hfl⟩ := rules_elem (hus.mono hV) (RepR.imp3 hV hur) hk'
    have hra := hral _ (List.getElem_mem hk')
    refine K_skip ?_
    refine Q_then ?_
    refine K_seq ?_
    refine K_block ?_
    refine K_seq ?_
    refine K_region ?_
    refine KV (R_indexN sl48 ty85 rfl rfl (by omega)) rfl ?_
    refine KV (R_loadH ty85 rfl (hrc) rfl (fun e => by cases e) rfl) rfl ?_
    refine KA (A_alloc z85) rfl fun b9 => ?_
    refine K_store ty85 0 rfl rfl rfl rfl rfl rfl ?_
    refine K_nil ?_
    refine Q_then ?_
    refine K_seq ?_
    refine K_region ?_
    refine KV (R_assign rfl) rfl ?_
    refine K_nil ?_
    refine Q_then ?_
    refine K_seq ?_
    refine K_seq ?_
    refine K_region ?_
    refine KV (R_fieldAddr 1 fd85_1 rfl) rfl ?_
    refine KV (R_loadO ty25 0 rfl rfl rfl rfl (fun _ => rfl) rfl) rfl ?_
    refine KV (R_len sl25 rfl) rfl ?_
    refine KV (R_move rfl) rfl ?_
    refine K_nil ?_
    refine Q_then ?_
    refine K_block ?_
    refine K_loop (G := Nat × View) ⟨fun g => [(0, ptr B), (2, .slice aa args.length acp), (6, ptr b6), (7, ptr b7), (19, .slice (some ⟨ub, uo, none⟩) rs.length ucp), (20, .int .i64 rs.length), (21, .int .i64 (k : Int)), (9, ptr b9), (10, .bool (fitsTo subs args rs[k].args g.1)), (26, .slice fa rs[k].args.length fcp), (27, .int .i64 rs[k].args.length), (28, .int .i64 (g.1 : Int))], fun g => [blk b9 (.cells #[.int .i64 rs[k].sym, .slice fa rs[k].args.length fcp, .int .i64 rs[k].to] T85 (0, 0)), blk b7 (.cells (setV (succTo subs args rs k)).cells T98 (0, 0)), blk b6 (.cells (setV 0).cells T98 (0, 0)), blk B (.cells #[vr, .int .i64 a.states, vu, vf, .slice (some ⟨rb, ro, none⟩) a.ranks.length rcp, mp m1, vsub, mp m2] T95 (0, 0)), row vsub T98 16 subs.length (subCells subs)], fun g => g.2, fun g => g.1 ≤ rs[k].args.length ∧ VLe V g.2, fun g => rs[k].args.length - g.1⟩ (0, V) ⟨Nat.zero_le _, VLe.refl V⟩ ⟨rfl, rfl, rfl, rfl, rfl, rfl, rfl, rfl, rfl, rfl, rfl, rfl, trivial⟩ rfl rfl ?_
    rintro ⟨j, V1⟩ ⟨hj, hle1⟩
    dsimp only at hj hle1 ⊢
    refine K_seq ?_
    refine K_region ?_
    refine KV (R_cmp rfl rfl rfl) rfl ?_
    refine K_nil ?_
    refine Q_then ?_
    refine K_seq ?_
    refine K_if rfl (fun h29 => ?_) (fun h29 => ?_)
    ·
      have hj' : j < rs[k].args.length := by omega
      obtain ⟨fb, fo, rfl, hfc⟩ := (hfs.mono hle1).get hj'
      refine K_skip ?_
      refine Q_then ?_
      refine K_seq ?_
      refine K_block ?_
      refine K_seq ?_
      refine K_region ?_
      refine KV (R_move rfl) rfl ?_
      refine KV (R_indexN sl25 ty3 rfl rfl (by omega)) rfl ?_
      refine KV (R_loadH ty3 rfl (hfc) rfl (fun _ => rfl) rfl) rfl ?_
      refine KV (R_assign rfl) rfl ?_
      refine KV (R_assign rfl) rfl ?_
      refine K_nil ?_
      refine Q_then ?_
      refine K_regionD (fin := false) (R := [0, 1, 2, 3, 4, 5, 6, 7, 8, 9, 10, 11, 12, 13, 14, 15]) (by kernel_rfl) mixed (.cons _ (.cons _ (.cons _ (.cons_cons _ (.cons_cons _ (List.nil_sublist _)))))) ?_
      refine D_val rfl rfl rfl (R_move rfl) ?_
      refine D_val rfl rfl rfl (R_move rfl) ?_
      refine D_splitB ?_ ?_
      ·
        intro h34
        have hja : j < args.length := by omega
        obtain ⟨ab, ao, rfl, hac⟩ := (hv.mono (hV.trans hle1)).get hja
        have hx := har _ (List.getElem_mem hja)
        have hlt : args[j].toNat < subs.length := by omega
        have hidx : 0 ≤ args[j] ∧ args[j] < (subs.length : Int) := hx
        obtain ⟨sg, scp, rfl⟩ : ∃ g cap, vsub = .slice (some ⟨g, 0, none⟩) subs.length cap := by
          rcases hvs with ⟨_, h0⟩ | h
          · omega
          · exact h
        refine D_val rfl rfl rfl (R_move rfl) ?_
        refine D_val rfl rfl rfl (R_nilCheck rfl) ?_
        refine D_val rfl rfl rfl (R_fieldAddr 6 fd95_3 rfl) ?_
        refine D_val rfl rfl rfl (R_loadO ty92 0 rfl rfl rfl rfl (fun _ => rfl) rfl) ?_
        refine D_val rfl rfl rfl (R_move rfl) ?_
        refine D_val rfl rfl rfl (R_move rfl) ?_
        refine D_val rfl rfl rfl (R_indexN sl25 ty3 rfl rfl hja) ?_
        refine D_val rfl rfl rfl (R_loadH ty3 rfl (hac) rfl (fun _ => rfl) rfl) ?_
        refine D_val rfl rfl rfl (R_index sl92 ty98 rfl rfl hidx) ?_
        refine D_val rfl rfl rfl (R_loadRow (v := setV subs[args[j].toNat]) ty98 1 rfl rfl rfl (by rw [Nat.zero_add]; exact subCells_get hlt) rfl (fun e => by cases e) rfl) ?_
        refine D_val rfl rfl rfl (R_move rfl) ?_
        refine D_call rfl rfl c120 rfl ⟨⟨3, rfl⟩, ⟨4, rfl⟩, trivial⟩ (has_spec subs[args[j].toNat] rs[k].args[j] V1) ?_
        rintro _ V2 hle2 rfl
        refine D_val rfl rfl rfl (R_pickT rfl rfl) ?_
        refine D_val rfl rfl rfl (R_assign rfl) ?_
        refine D_done ?_
        refine Q_block ?_
        refine Q_then ?_
        refine K_region ?_
        refine KV (R_add rfl rfl (by omega)) rfl ?_
        refine KV (R_move rfl) rfl ?_
        refine K_nil ?_
        refine Q_next (j + 1, V2) ⟨hj', hle1.trans hle2⟩ (by dsimp only; omega) ⟨rfl, rfl, rfl, rfl, rfl, rfl, rfl, rfl, congrArg (fun z => some (Value.bool z)) (fitsTo_true h34 hja hj' hlt).symm, rfl, rfl, rfl, trivial⟩ rfl rfl
      ·
        intro h34
        refine D_skip rfl rfl ?_
        refine D_skip rfl rfl ?_
        refine D_skip rfl rfl ?_
        refine D_skip rfl rfl ?_
        refine D_skip rfl rfl ?_
        refine D_skip rfl rfl ?_
        refine D_skip rfl rfl ?_
        refine D_skip rfl rfl ?_
        refine D_skip rfl rfl ?_
        refine D_skip rfl rfl ?_
        refine D_skip rfl rfl ?_
        refine D_skip rfl rfl ?_
        refine D_val rfl rfl rfl (R_pickF rfl rfl) ?_
        refine D_val rfl rfl rfl (R_assign rfl) ?_
        refine D_done ?_
        refine Q_block ?_
        refine Q_then ?_
        refine K_region ?_
        refine KV (R_add rfl rfl (by omega)) rfl ?_
        refine KV (R_move rfl) rfl ?_
        refine K_nil ?_
        refine Q_next (j + 1, V1) ⟨hj', hle1⟩ (by dsimp only; omega) ⟨rfl, rfl, rfl, rfl, rfl, rfl, rfl, rfl, congrArg (fun z => some (Value.bool z)) (fitsTo_false h34).symm, rfl, rfl, rfl, trivial⟩ rfl rfl
    ·
      have hj' : j = rs[k].args.length := by omega
      subst hj'
      refine K_exit ?_
      refine Q_then_exit ?_
      refine Q_then_exit ?_
      refine Q_block_exit ?_
      refine Q_then ?_
      refine K_seq ?_
      refine K_region ?_
      refine KV (R_move rfl) rfl ?_
      refine K_nil ?_
      refine Q_then ?_
      refine K_ifB rfl (fun h49 => ?_) (fun h49 => ?_)
      ·
        refine K_region ?_
        refine KV (R_loadW ty98 1 rfl rfl rfl rfl) rfl ?_
        refine KV (R_fieldAddr 2 fd85_2 rfl) rfl ?_
        refine KV (R_loadO ty3 0 rfl rfl rfl rfl (fun _ => rfl) rfl) rfl ?_
        refine K_call c82 rfl rfl (with_spec _ _ V1) ?_
        rintro _ V2 hle2 rfl
        refine K_storeW ty98 1 rfl rfl rfl rfl rfl rfl rfl ?_
        refine K_nil ?_
        refine Q_block ?_
        refine Q_then ?_
        refine K_region ?_
        refine KV (R_add rfl rfl (by omega)) rfl ?_
        refine KV (R_move rfl) rfl ?_
        refine K_nil ?_
        refine KQ_sel [1, 1, 1, 1] rfl ?_
        exact Q_next (k + 1, V2) ⟨hk', hV.trans (hle1.trans hle2)⟩ (by dsimp only; omega) ⟨rfl, rfl, rfl, rfl, rfl, rfl, rfl, trivial⟩ (by dsimp only; rw [succTo_yes hk' h49]; rfl) rfl
      ·
        refine K_skip ?_
        refine Q_block ?_
        refine Q_then ?_
        refine K_region ?_
        refine KV (R_add rfl rfl (by omega)) rfl ?_
        refine KV (R_move rfl) rfl ?_
        refine K_nil ?_
        refine KQ_sel [1, 1, 1, 1] rfl ?_
        exact Q_next (k + 1, V1) ⟨hk', hV.trans hle1⟩ (by dsimp only; omega) ⟨rfl, rfl, rfl, rfl, rfl, rfl, rfl, trivial⟩ (by dsimp only; rw [succTo_no hk' h49]) rfl
  ·
    have hk' : k = rs.length := by omega
    subst hk'
    refine K_exit ?_
    refine Q_then_exit ?_
    refine Q_then_exit ?_
    refine Q_block_exit ?_
    refine Q_then ?_
    refine K_seq ?_
    refine K_region ?_
    refine KV (R_loadW ty98 0 rfl rfl rfl rfl) rfl ?_
    refine K_storeW ty98 1 rfl rfl rfl rfl rfl rfl rfl ?_
    refine K_nil ?_
    refine Q_then ?_
    refine K_ret ?_
    refine results_sel [2, 2] rfl (rs := [.cell 6 133]) (vs := [_]) rfl ⟨⟨_, _, _, _, _, _, 1, rfl, rfl, ty98, (fun e => by cases e), rfl, rfl⟩, trivial⟩ ?_
    exact ⟨rfl, rfl⟩

theorem add_spec (a : Au) (st : DS) (limit : Int) (sym : Nat) (args : List Int) (B m1 m2 : Nat) (vr vu vf vrules v : Value) (H : View) (q : HL) (hq : BE T95 T98 B m1 m2 a vr vu vf vrules st q) (hinv : st.Inv limit) (hby : RepBy H a vrules) (hv : SI H v args)
    (hsym : sym < a.ranks.length) (hrl : a.ranks.length ≤ 1099511627776) (hul : (rulesOf a sym).length ≤ 1099511627776) (hral : ∀ r ∈ rulesOf a sym, r.args.length = args.length) (har : ∀ x ∈ args, 0 ≤ x ∧ x < st.subs.length) (hlim : limit ≤ 1048576) :
    SatO Tryz.prog F103 #[ptr B, .int .i64 (sym : Int), v, .int .i64 limit] H q
      (fun r _ q' => ∃ b : Bool, r = .bool b ∧ (b = true → ∃ st', addM a limit sym st args = some st' ∧ BE T95 T98 B m1 m2 a vr vu vf vrules st' q') ∧ (b = false → addM a limit sym st args = none)) := by
  obtain ⟨vsub, hvs, rfl⟩ := hq
  obtain ⟨sa, scp, rfl⟩ := hvs.shape
  obtain ⟨aa, acp, rfl⟩ := hv.shape
  have hsi : i64ok (sym : Int) := by simp only [i64ok]; omega
  have hko := keyM_ok hsi hv.2
  obtain ⟨kl, hkl⟩ := tri106.key hko
  have hsb : succM a st.subs sym args < big := succTo_big _ _ _ _
  obtain ⟨ks, hks⟩ := set98.key (succM a st.subs sym args)
  have hle := hinv.le
  refine enterO (n := 73) (args := [ptr B, .int .i64 (sym : Int), .slice aa args.length acp, .int .i64 limit]) Tryz.func168 rfl rfl rfl fun w0 => ?_
  refine K_seq ?_
  refine K_region ?_
  refine KV (R_assign rfl) rfl ?_
  refine K_nil ?_
  refine Q_then ?_
  refine K_seq ?_
  refine K_region ?_
  refine KV (R_move rfl) rfl ?_
  refine KV (R_move rfl) rfl ?_
  refine K_call c50 rfl rfl (key_spec sym args _ H hv) ?_
  rintro _ V1 hle1 rfl
  refine KA (A_alloc z106) rfl fun b9 => ?_
  refine K_storeW ty106 0 rfl rfl rfl rfl rfl rfl rfl ?_
  refine K_nil ?_
  refine Q_then ?_
  refine K_seq ?_
  refine K_seq ?_
  refine K_regionD (fin := false) (R := [0, 1, 2, 3, 4, 5, 6, 7, 8, 9, 10]) (by kernel_rfl) mixed (.cons_cons _ (.cons_cons _ (.cons_cons _ (.cons_cons _ (.cons_cons _ (List.nil_sublist _)))))) ?_
  refine D_val rfl rfl rfl (R_move rfl) ?_
  refine D_val rfl rfl rfl (R_nilCheck rfl) ?_
  refine D_val rfl rfl rfl (R_fieldAddr 7 fd95_4 rfl) ?_
  refine D_val rfl rfl rfl (R_loadO ty93 1 rfl rfl rfl rfl (fun _ => rfl) rfl) ?_
  refine D_val rfl rfl rfl (R_loadW ty106 0 rfl rfl rfl (show Value.agg _ = keyV (keyM sym args) from rfl)) ?_
  refine D_val rfl rfl rfl (R_lookup kl106 mt93 z3 4 rfl rfl rfl hkl (resKV_keys tri106 hinv.rk) (resKV_opt hinv.rn _)) ?_
  refine D_val rfl rfl rfl (R_move rfl) ?_
  refine D_val rfl rfl rfl (R_extract rfl rfl) ?_
  refine D_val rfl rfl rfl (R_extract rfl rfl) ?_
  refine D_val rfl rfl rfl (R_assign rfl) ?_
  refine D_val rfl rfl rfl (R_assign rfl) ?_
  refine D_done ?_
  refine Q_then ?_
  refine K_seq ?_
  refine K_region ?_
  refine KV (R_move rfl) rfl ?_
  refine K_nil ?_
  refine Q_then ?_
  cases hlk : lookM st.res (keyM sym args) with
  | some nn =>
    refine K_ifT rfl ?_
    refine K_seq ?_
    refine K_region ?_
    refine KV (R_assign rfl) rfl ?_
    refine K_nil ?_
    refine Q_then ?_
    refine K_ret ?_
    refine Q_then_ret ?_
    refine results_sel [1, 1, 1, 1] rfl (rs := [.tmp 8]) (vs := [_]) rfl ⟨rfl, trivial⟩ ?_
    exact ⟨true, rfl, fun _ => ⟨st, by simp [addM, hlk], _, hvs, rfl⟩, fun e => by cases e⟩
  | none =>
    refine K_ifF rfl ?_
    refine K_skip ?_
    refine Q_then ?_
    refine K_seq ?_
    refine K_region ?_
    refine KV (R_move rfl) rfl ?_
    refine KV (R_move rfl) rfl ?_
    refine KV (R_move rfl) rfl ?_
    refine KO_sel [1, 2, 0, 0, 0] rfl ?_
    refine K_callO (first := []) [_, _] [_, _, _] (List.Perm.refl _) c116 rfl rfl rfl (succ_spec a st.subs sym args B m1 m2 vr vu vf vrules _ _ V1 (hby.mono hle1) hvs (hv.mono hle1) hsym hrl hul hral har) ?_
    rintro _ V2 q hle2 ⟨rfl, rfl⟩
    refine KA (A_alloc z98) rfl fun b12 => ?_
    refine K_storeW ty98 0 rfl rfl rfl rfl rfl rfl rfl ?_
    refine K_nil ?_
    refine Q_then ?_
    refine K_seq ?_
    refine K_regionD (fin := false) (R := [0, 1, 2, 3, 4, 5, 6, 7, 8, 9, 10]) (by kernel_rfl) mixed (.cons_cons _ (.cons_cons _ (.cons_cons _ (.cons_cons _ (.cons_cons _ (.cons_cons _ (List.nil_sublist _))))))) ?_
    refine D_val rfl rfl rfl (R_move rfl) ?_
    refine D_val rfl rfl rfl (R_nilCheck rfl) ?_
    refine D_val rfl rfl rfl (R_fieldAddr 5 fd95_2 rfl) ?_
    refine D_val rfl rfl rfl (R_loadO ty91 1 rfl rfl rfl rfl (fun _ => rfl) rfl) ?_
    refine D_val rfl rfl rfl (R_loadW ty98 0 rfl rfl rfl (show Value.agg _ = setV (succM a st.subs sym args) from rfl)) ?_
    refine D_val rfl rfl rfl (R_lookup kl98 mt91 z3 4 rfl rfl rfl hks (numKV_keys set98 _) (numKV_opt hinv.nd hinv.bg hsb)) ?_
    refine D_val rfl rfl rfl (R_move rfl) ?_
    refine D_val rfl rfl rfl (R_extract rfl rfl) ?_
    refine D_val rfl rfl rfl (R_extract rfl rfl) ?_
    refine D_val rfl rfl rfl (R_assign rfl) ?_
    refine D_val rfl rfl rfl (R_assign rfl) ?_
    refine D_done ?_
    refine Q_then ?_
    refine K_seq ?_
    refine K_seq ?_
    refine K_region ?_
    refine KV (R_move rfl) rfl ?_
    refine KV (R_not rfl) rfl ?_
    refine K_nil ?_
    refine Q_then ?_
    cases hnum : numM st.subs (succM a st.subs sym args) with
    | none =>
      have hab := numKV_opt hinv.nd hinv.bg hsb
      rw [hnum] at hab
      refine K_ifT rfl ?_
      refine K_seq ?_
      refine K_region ?_
      refine KV (R_move rfl) rfl ?_
      refine KV (R_nilCheck rfl) rfl ?_
      refine KV (R_fieldAddr 6 fd95_3 rfl) rfl ?_
      refine KV (R_loadO ty92 1 rfl rfl rfl rfl (fun _ => rfl) rfl) rfl ?_
      refine KV (R_len sl92 rfl) rfl ?_
      refine KV (R_assign rfl) rfl ?_
      refine K_nil ?_
      refine Q_then ?_
      refine K_seq ?_
      refine K_seq ?_
      refine K_region ?_
      refine KV (R_move rfl) rfl ?_
      refine KV (R_move rfl) rfl ?_
      refine KV (R_cmp rfl rfl rfl) rfl ?_
      refine K_nil ?_
      refine Q_then ?_
      refine K_if rfl (fun h50 => ?_) (fun h50 => ?_)
      ·
        refine K_seq ?_
        refine K_region ?_
        refine KV (R_assign rfl) rfl ?_
        refine K_nil ?_
        refine Q_then ?_
        refine K_ret ?_
        refine Q_then_ret ?_
        refine Q_then_ret ?_
        refine results_sel [1, 3, 1, 2] rfl (rs := [.tmp 8]) (vs := [_]) rfl ⟨rfl, trivial⟩ ?_
        exact ⟨false, rfl, (fun e => by cases e), fun _ => by simp [addM, hlk, hnum, h50]⟩
      ·
        refine K_skip ?_
        refine Q_then ?_
        refine K_seq ?_
        refine K_regionD (fin := true) (R := [0, 1, 2, 3, 4, 5, 6]) (by kernel_rfl) mixed (.cons_cons _ (.cons_cons _ (.cons_cons _ (.cons_cons _ (.cons_cons _ (.cons_cons _ (List.nil_sublist _))))))) ?_
        refine D_val rfl rfl rfl (R_move rfl) ?_
        refine D_val rfl rfl rfl (R_nilCheck rfl) ?_
        refine D_val rfl rfl rfl (R_fieldAddr 5 fd95_2 rfl) ?_
        refine D_val rfl rfl rfl (R_loadO ty91 1 rfl rfl rfl rfl (fun _ => rfl) rfl) ?_
        refine D_val rfl rfl rfl (R_loadW ty98 0 rfl rfl rfl (show Value.agg _ = setV (succM a st.subs sym args) from rfl)) ?_
        refine D_val rfl rfl rfl (R_move rfl) ?_
        refine D_lastPut kl98 mt91 4 rfl rfl rfl rfl rfl rfl (hks) (numKV_keys set98 _) (hab) ?_
        refine Q_then ?_
        refine K_regionD (fin := true) (R := [0, 1, 2, 3, 4, 5, 6, 7, 8, 9, 10]) (by kernel_rfl) mixed (.cons_cons _ (.cons_cons _ (.cons _ (.cons _ (.cons _ (.cons _ (List.nil_sublist _))))))) ?_
        refine D_val rfl rfl rfl (R_move rfl) ?_
        refine D_val rfl rfl rfl (R_move rfl) ?_
        refine D_val rfl rfl rfl (R_nilCheck rfl) ?_
        refine D_val rfl rfl rfl (R_fieldAddr 6 fd95_3 rfl) ?_
        refine D_val rfl rfl rfl (R_loadO ty92 1 rfl rfl rfl rfl (fun _ => rfl) rfl) ?_
        refine D_val rfl rfl rfl (R_loadW ty98 0 rfl rfl rfl (show Value.agg _ = setV (succM a st.subs sym args) from rfl)) ?_
        refine D_alloc rfl rfl rfl (A_buildSlice (vs := [setV (succM a st.subs sym args)]) sl92 ty98 z98 rfl rfl (by intro v hv; simp only [List.mem_cons, List.not_mem_nil, or_false] at hv; subst hv; rfl) (by simp) rfl (by decide)) fun b63 => ?_
        refine D_append1 2 ap92 rfl rfl rfl rfl rfl rfl ⟨⟨0, rfl⟩, ⟨1, rfl⟩, trivial⟩ rfl rfl ⟨by omega, by omega⟩ fun a64 k64 hn64 => ?_
        refine D_val rfl rfl rfl (R_nilCheck rfl) ?_
        refine D_val rfl rfl rfl (R_fieldAddr 6 fd95_3 rfl) ?_
        refine D_lastStore ty92 2 rfl rfl rfl rfl rfl rfl rfl rfl ?_
        refine KQ_rowshape 0 rfl fun hvs2 => ?_
        refine Q_then ?_
        refine K_seq ?_
        have hrb := resKV_opt hinv.rn (keyM sym args)
        rw [hlk] at hrb
        refine K_regionD (fin := true) (R := [0, 1, 2, 3, 4, 5, 6]) (by kernel_rfl) mixed (.cons_cons _ (.cons_cons _ (.cons_cons _ (.cons_cons _ (.cons_cons _ (.cons_cons _ (List.nil_sublist _))))))) ?_
        refine D_val rfl rfl rfl (R_move rfl) ?_
        refine D_val rfl rfl rfl (R_nilCheck rfl) ?_
        refine D_val rfl rfl rfl (R_fieldAddr 7 fd95_4 rfl) ?_
        refine D_val rfl rfl rfl (R_loadO ty93 2 rfl rfl rfl rfl (fun _ => rfl) rfl) ?_
        refine D_val rfl rfl rfl (R_loadW ty106 3 rfl rfl rfl (show Value.agg _ = keyV (keyM sym args) from rfl)) ?_
        refine D_val rfl rfl rfl (R_move rfl) ?_
        refine D_lastPut kl106 mt93 5 rfl rfl rfl rfl rfl rfl (hkl) (resKV_keys tri106 hinv.rk) (hrb) ?_
        refine Q_then ?_
        refine K_seq ?_
        refine K_region ?_
        refine KV (R_assign rfl) rfl ?_
        refine K_nil ?_
        refine Q_then ?_
        refine K_ret ?_
        refine results_sel [2, 3, 0, 2] rfl (rs := [.tmp 8]) (vs := [_]) rfl ⟨rfl, trivial⟩ ?_
        refine ⟨true, rfl, fun _ => ⟨⟨st.subs ++ [succM a st.subs sym args], st.res ++ [(keyM sym args, (st.subs.length : Int))]⟩, by simp [addM, hlk, hnum, h50], _, by simpa using hvs2, ?_⟩, fun e => by cases e⟩
        simp only [numKV_snoc, subCells_snoc, resKV_snoc, List.length_append, List.length_cons, List.length_nil]
        rfl
    | some nn =>
      refine K_ifF rfl ?_
      refine K_skip ?_
      refine Q_then ?_
      refine K_seq ?_
      have hrb := resKV_opt hinv.rn (keyM sym args)
      rw [hlk] at hrb
      refine K_regionD (fin := true) (R := [0, 1, 2, 3, 4, 5, 6]) (by kernel_rfl) mixed (.cons_cons _ (.cons_cons _ (.cons_cons _ (.cons_cons _ (.cons_cons _ (.cons_cons _ (List.nil_sublist _))))))) ?_
      refine D_val rfl rfl rfl (R_move rfl) ?_
      refine D_val rfl rfl rfl (R_nilCheck rfl) ?_
      refine D_val rfl rfl rfl (R_fieldAddr 7 fd95_4 rfl) ?_
      refine D_val rfl rfl rfl (R_loadO ty93 1 rfl rfl rfl rfl (fun _ => rfl) rfl) ?_
      refine D_val rfl rfl rfl (R_loadW ty106 3 rfl rfl rfl (show Value.agg _ = keyV (keyM sym args) from rfl)) ?_
      refine D_val rfl rfl rfl (R_move rfl) ?_
      refine D_lastPut kl106 mt93 5 rfl rfl rfl rfl rfl rfl (hkl) (resKV_keys tri106 hinv.rk) (hrb) ?_
      refine Q_then ?_
      refine K_seq ?_
      refine K_region ?_
      refine KV (R_assign rfl) rfl ?_
      refine K_nil ?_
      refine Q_then ?_
      refine K_ret ?_
      refine results_sel [1, 3, 1, 2] rfl (rs := [.tmp 8]) (vs := [_]) rfl ⟨rfl, trivial⟩ ?_
      refine ⟨true, rfl, fun _ => ⟨⟨st.subs, st.res ++ [(keyM sym args, nn)]⟩, by simp [addM, hlk, hnum], _, hvs, ?_⟩, fun e => by cases e⟩
      simp only [resKV_snoc]
      rfl

theorem addc_spec (a : Au) (st : DS) (limit : Int) (sym : Nat) (args : List Int) (B m1 m2 bp bs bl : Nat) (vr vu vf vrules v : Value) (H : View) (q : HL) (hq : BE T95 T98 B m1 m2 a vr vu vf vrules st q) (hinv : st.Inv limit) (hby : RepBy H a vrules) (hv : SI H v args)
    (hsym : sym < a.ranks.length) (hrl : a.ranks.length ≤ 1099511627776) (hul : (rulesOf a sym).length ≤ 1099511627776) (hral : ∀ r ∈ rulesOf a sym, r.args.length = args.length) (har : ∀ x ∈ args, 0 ≤ x ∧ x < st.subs.length) (hlim : limit ≤ 1048576)
    (hbp : At H bp 0 [ptr B]) (hbs : At H bs 0 [.int .i64 (sym : Int)]) (hbl : At H bl 0 [.int .i64 limit]) :
    SatO Tryz.prog F102 #[v, ptr bp, ptr bs, ptr bl] H q
      (fun r _ q' => ∃ b : Bool, r = .bool b ∧ (b = true → ∃ st', addM a limit sym st args = some st' ∧ BE T95 T98 B m1 m2 a vr vu vf vrules st' q') ∧ (b = false → addM a limit sym st args = none)) := by
  obtain ⟨aa, acp, rfl⟩ := hv.shape
  refine enterO (n := 11) (args := [.slice aa args.length acp, ptr bp, ptr bs, ptr bl]) Tryz.func167 rfl rfl rfl fun w0 => ?_
  refine K_seq ?_
  refine K_region ?_
  refine KV (R_assign rfl) rfl ?_
  refine K_nil ?_
  refine Q_then ?_
  refine K_seq ?_
  refine K_region ?_
  refine KV (R_loadH ty87 rfl (hbp) rfl (fun _ => rfl) rfl) rfl ?_
  refine KV (R_loadH ty3 rfl (hbs) rfl (fun _ => rfl) rfl) rfl ?_
  refine KV (R_move rfl) rfl ?_
  refine KV (R_loadH ty3 rfl (hbl) rfl (fun _ => rfl) rfl) rfl ?_
  refine K_callO (first := []) q [] (by rw [List.append_nil]) c103 rfl rfl rfl (add_spec a st limit sym args B m1 m2 vr vu vf vrules _ H q hq hinv hby hv hsym hrl hul hral har hlim) ?_
  rintro _ V1 q1 hle1 ⟨b, rfl, hb1, hb2⟩
  refine KV (R_assign rfl) rfl ?_
  refine K_nil ?_
  refine Q_then ?_
  refine K_ret ?_
  refine results_gen (rs := [.tmp 5]) (vs := [_]) rfl ⟨rfl, trivial⟩ ?_
  refine ⟨b, rfl, ?_, hb2⟩
  rw [List.append_nil]
  exact hb1

theorem build_spec (a : Au) (haok : AuOk a) (limit : Int) (B m1 m2 : Nat) (vr vu vf vrules : Value) (H : View) (hr : SI H vr a.ranks) (hby : RepBy H a vrules) (hlim : limit ≤ 1048576) (st0 : DS) (q0 : HL) (F0 : Nat) (hq0 : BE T95 T98 B m1 m2 a vr vu vf vrules st0 q0) (hinv0 : st0.Inv limit) (hF0 : limit - st0.subs.length < F0) :
    SatO Tryz.prog F79 #[ptr B, .int .i64 limit] H q0 (fun r _ q' => ∃ b : Bool, r = .bool b ∧ (b = true → ∃ st', buildM a limit F0 st0 = some st' ∧ st'.Inv limit ∧ BE T95 T98 B m1 m2 a vr vu vf vrules st' q') ∧ (b = false → buildM a limit F0 st0 = none)) := by
  obtain ⟨ra, rcp, rfl⟩ := hr.shape
  have hrl := haok.rl
  refine enterP (n := 37) (args := [ptr B, .int .i64 limit]) Tryz.func123 rfl rfl rfl fun w0 hpass => ?_
  refine K_seq ?_
  refine K_region ?_
  refine KA (A_box rfl) rfl fun b2 => ?_
  refine KA (A_box rfl) rfl fun b3 => ?_
  refine KV (R_assign rfl) rfl ?_
  refine K_nil ?_
  refine KQ_pubblk (by intro x hx; simp only [feet_cons]; simp [hx]) fun V1 hle1 hb3 => ?_
  refine KQ_pubblk (by intro x hx; exact hx) fun V2 hle2 hb2 => ?_
  have hA2 := At.of hb2
  have hA3 := (At.of hb3).mono hle2
  have h02 := hle1.trans hle2
  refine Q_then ?_
  refine K_block ?_
  refine K_loop (G := Nat × DS × View × HL) ⟨fun g => [(2, ptr b2), (3, ptr b3)], fun g => g.2.2.2, fun g => g.2.2.1, fun g => VLe V2 g.2.2.1 ∧ BE T95 T98 B m1 m2 a (.slice ra a.ranks.length rcp) vu vf vrules g.2.1 g.2.2.2 ∧ g.2.1.Inv limit ∧ buildM a limit F0 st0 = buildM a limit g.1 g.2.1 ∧ limit - g.2.1.subs.length < g.1, fun g => g.1⟩ (F0, st0, V2, q0) ⟨VLe.refl V2, hq0, hinv0, rfl, hF0⟩ ⟨rfl, rfl, trivial⟩ rfl rfl ?_
  rintro ⟨F, st, V, q⟩ ⟨hV, hq, hinv, hbm, hF⟩
  dsimp only at hV hq hinv hbm hF ⊢
  obtain ⟨vsub, hvs, rfl⟩ := hq
  obtain ⟨sa, scp, rfl⟩ := hvs.shape
  have hle := hinv.le
  obtain ⟨F, rfl⟩ : ∃ F2, F = F2 + 1 := ⟨F - 1, by omega⟩
  refine K_block ?_
  refine K_seq ?_
  refine K_region ?_
  refine KV (R_loadH ty87 rfl (hA2.mono hV) rfl (fun _ => rfl) rfl) rfl ?_
  refine KV (R_nilCheck rfl) rfl ?_
  refine KV (R_fieldAddr 6 fd95_3 rfl) rfl ?_
  refine KV (R_loadO ty92 0 rfl rfl rfl rfl (fun _ => rfl) rfl) rfl ?_
  refine KV (R_len sl92 rfl) rfl ?_
  refine KV (R_assign rfl) rfl ?_
  refine K_nil ?_
  refine Q_then ?_
  refine K_seq ?_
  refine K_seq ?_
  refine K_region ?_
  refine KV (R_loadH ty87 rfl (hA2.mono hV) rfl (fun _ => rfl) rfl) rfl ?_
  refine KV (R_nilCheck rfl) rfl ?_
  refine KV (R_fieldAddr 0 fd95_0 rfl) rfl ?_
  refine KV (R_fieldAddr 0 fd50_0 rfl) rfl ?_
  refine KV (R_loadO ty47 0 rfl rfl rfl rfl (fun _ => rfl) rfl) rfl ?_
  refine KV (R_len sl47 rfl) rfl ?_
  refine KV (R_move rfl) rfl ?_
  refine K_nil ?_
  refine Q_then ?_
  refine K_block ?_
  refine K_loop (G := Nat × DS × View × HL) ⟨fun g => [(2, ptr b2), (3, ptr b3), (5, .int .i64 (st.subs.length : Int)), (17, .slice ra a.ranks.length rcp), (18, .int .i64 a.ranks.length), (19, .int .i64 (g.1 : Int))], fun g => g.2.2.2, fun g => g.2.2.1, fun g => g.1 ≤ a.ranks.length ∧ VLe V g.2.2.1 ∧ BE T95 T98 B m1 m2 a (.slice ra a.ranks.length rcp) vu vf vrules g.2.1 g.2.2.2 ∧ g.2.1.Inv limit ∧ st.subs.length ≤ g.2.1.subs.length ∧ roundM a limit st.subs.length a.ranks 0 st = roundM a limit st.subs.length (a.ranks.drop g.1) g.1 g.2.1, fun g => a.ranks.length - g.1⟩ (0, st, V, _) ⟨Nat.zero_le _, VLe.refl V, ⟨_, hvs, rfl⟩, hinv, Nat.le_refl _, rfl⟩ ⟨rfl, rfl, rfl, rfl, rfl, rfl, trivial⟩ rfl rfl ?_
  rintro ⟨s, st2, U, q2⟩ ⟨hs, hU, hq2, hinv2, hge, hrd⟩
  dsimp only at hs hU hq2 hinv2 hge hrd ⊢
  refine K_seq ?_
  refine K_region ?_
  refine KV (R_cmp rfl rfl rfl) rfl ?_
  refine K_nil ?_
  refine Q_then ?_
  refine K_seq ?_
  refine K_if rfl (fun h20 => ?_) (fun h20 => ?_)
  ·
    have hs' : s < a.ranks.length := by omega
    obtain ⟨rb, ro, rfl, hrk⟩ := (hr.mono (h02.trans (hV.trans hU))).get hs'
    refine K_skip ?_
    refine Q_then ?_
    refine K_seq ?_
    refine K_block ?_
    refine K_seq ?_
    refine K_region ?_
    refine KV (R_move rfl) rfl ?_
    refine KV (R_indexN sl47 ty3 rfl rfl (by omega)) rfl ?_
    refine KV (R_loadH ty3 rfl (hrk) rfl (fun _ => rfl) rfl) rfl ?_
    refine KAn (A_alloc z3) rfl fun b6 hf6 => ?_
    refine K_store ty3 0 rfl rfl rfl rfl rfl rfl ?_
    refine KV (R_assign rfl) rfl ?_
    refine K_nil ?_
    refine KQ_pubnew (fun hm => Nat.lt_irrefl _ (Nat.lt_of_lt_of_le (hpass _ hm) hf6)) fun W1 hw1 hb6 => ?_
    have hA6 := At.of hb6
    refine Q_then ?_
    refine K_seq ?_
    refine K_region ?_
    refine KV (R_move rfl) rfl ?_
    refine KV (R_move rfl) rfl ?_
    refine KV (R_makeFunc rfl rfl) rfl ?_
    have hrs := haok.rk s hs'
    obtain ⟨nn, hnn⟩ : ∃ nn : Nat, a.ranks[s] = (nn : Int) := ⟨a.ranks[s].toNat, by omega⟩
    have hsi : i64ok (s : Int) := by simp only [i64ok]; omega
    have hnt : a.ranks[s].toNat = nn := by omega
    have hexti : ∀ x ∈ ext st.subs.length nn [], ∀ y ∈ x, i64ok y := by
      intro x hx y hy
      obtain ⟨zs, rfl, _, h2⟩ := ext_mem hx
      have := h2 y (by simpa using hy)
      simp only [i64ok]; omega
    have hvis : VisitOk Tryz.prog F102 [ptr b2, ptr b6, ptr b3] W1 (ext st.subs.length nn []) (fun pre q => ∃ st3, addsM a limit s pre st2 = some st3 ∧ BE T95 T98 B m1 m2 a (.slice (some ⟨rb, ro, none⟩) a.ranks.length rcp) vu vf vrules st3 q) (fun _ => addsM a limit s (ext st.subs.length nn []) st2 = none) := by
      rintro G pre xs xa len cp p hlen hle ⟨st3, hadd, hq3⟩ hpf hxs hcp
      have hxm : xs ∈ ext st.subs.length nn [] := hpf.subset (by simp)
      obtain ⟨zs, hz, hzl, hzz⟩ := ext_mem hxm
      rw [List.nil_append] at hz
      subst hz
      have hpre : ∀ x ∈ pre, ∀ y ∈ x, i64ok y := fun x hx => hexti x (hpf.subset (by simp [hx]))
      obtain ⟨hinv3, hge3⟩ := addsM_inv hsi hpre hinv2 hadd
      refine SatO.mono' (addc_spec a st3 limit s xs B m1 m2 b2 b6 b3 _ vu vf vrules _ G p hq3 hinv3 (hby.mono (h02.trans (hV.trans (hU.trans (hw1.trans hle))))) hxs hs' (by omega) ?_ ?_ ?_ hlim (hA2.mono (hV.trans (hU.trans (hw1.trans hle)))) (hA6.mono hle) (hA3.mono (hV.trans (hU.trans (hw1.trans hle))))) ?_
      · have := List.length_filter_le (fun r : Rl => decide (r.sym = (s : Int))) a.rules
        have := haok.ul
        simp only [rulesOf]; omega
      · intro r hr
        obtain ⟨h1, h2⟩ := rulesOf_mem hr
        obtain ⟨_, _, h3, _⟩ := haok.ru r h1
        rw [h2] at h3
        have h4 : a.ranks.getD ((s : Int).toNat) 0 = a.ranks[s] := by simp [List.getD, hs']
        rw [h4] at h3
        omega
      · intro z hz
        have := hzz z hz
        omega
      · rintro v H' q ⟨b, rfl, hb1, hb2⟩
        refine ⟨b, rfl, ?_, ?_⟩
        · intro e
          obtain ⟨st4, h4, hq4⟩ := hb1 e
          exact ⟨st4, by rw [addsM_append, hadd]; simp [addsM, h4], hq4⟩
        · intro e
          obtain ⟨rest, hrest⟩ := hpf
          rw [← hrest, addsM_append, addsM_append, hadd]
          simp [addsM, hb2 e]

    refine K_callO (first := []) q2 [] (by rw [List.append_nil]) c48 rfl rfl rfl (hnn ▸ tuples_spec nn st.subs.length F102 [ptr b2, ptr b6, ptr b3] _ _ W1 q2 hvis c102 (by omega) (by omega) ⟨st2, rfl, hq2⟩) ?_
    rintro _ U2 q3 hu2 ⟨r, rfl, hr1, hr2⟩
    refine KV (R_not rfl) rfl ?_
    refine K_nil ?_
    refine Q_then ?_
    cases r with
    | false =>
      refine K_ifT rfl ?_
      refine K_seq ?_
      refine K_region ?_
      refine KV (R_assign rfl) rfl ?_
      refine K_nil ?_
      refine Q_then ?_
      refine K_ret ?_
      refine Q_block_ret ?_
      refine Q_then_ret ?_
      refine Q_then_ret ?_
      refine Q_block_ret ?_
      refine Q_then_ret ?_
      refine Q_block_ret ?_
      refine Q_then_ret ?_
      refine Q_block_ret ?_
      refine results_gen (rs := [.tmp 4]) (vs := [_]) rfl ⟨rfl, trivial⟩ ?_
      refine ⟨false, rfl, (fun e => by cases e), fun _ => ?_⟩
      rw [hbm, buildM, hrd, List.drop_eq_getElem_cons hs', roundM, hnt, hr2 rfl]
      rfl
    | true =>
      obtain ⟨st3, hadd, hq3⟩ := hr1 rfl
      refine K_ifF rfl ?_
      refine K_skip ?_
      refine Q_block ?_
      refine Q_then ?_
      refine K_region ?_
      refine KV (R_add rfl rfl (by omega)) rfl ?_
      refine KV (R_move rfl) rfl ?_
      refine K_nil ?_
      exact Q_next (s + 1, st3, U2, _) ⟨hs', hU.trans (hw1.trans hu2), by rw [List.append_nil]; exact hq3, (addsM_inv hsi hexti hinv2 hadd).1, Nat.le_trans hge (addsM_inv hsi hexti hinv2 hadd).2, by rw [hrd, List.drop_eq_getElem_cons hs', roundM, hnt, hadd]; rfl⟩ (by dsimp only; omega) ⟨rfl, rfl, rfl, rfl, rfl, rfl, trivial⟩ rfl rfl
  ·
    have hs' : s = a.ranks.length := by omega
    subst hs'
    rw [List.drop_length, roundM] at hrd
    refine K_exit ?_
    refine Q_then_exit ?_
    refine Q_then_exit ?_
    refine Q_block_exit ?_
    refine Q_then ?_
    refine K_seq ?_
    obtain ⟨vsub2, hvs2, rfl⟩ := hq2
    obtain ⟨sa2, scp2, rfl⟩ := hvs2.shape
    refine K_region ?_
    refine KV (R_loadH ty87 rfl (hA2.mono (hV.trans hU)) rfl (fun _ => rfl) rfl) rfl ?_
    refine KV (R_nilCheck rfl) rfl ?_
    refine KV (R_fieldAddr 6 fd95_3 rfl) rfl ?_
    refine KV (R_loadO ty92 0 rfl rfl rfl rfl (fun _ => rfl) rfl) rfl ?_
    refine KV (R_len sl92 rfl) rfl ?_
    refine KV (R_move rfl) rfl ?_
    refine KV (R_cmp rfl rfl rfl) rfl ?_
    refine K_nil ?_
    refine Q_then ?_
    refine K_if rfl (fun h36 => ?_) (fun h36 => ?_)
    ·
      have hbf : buildM a limit (F + 1) st = some st2 := by
        rw [buildM, hrd]
        simp only [Option.bind_some]
        rw [if_pos (by omega)]
      refine K_seq ?_
      refine K_region ?_
      refine KV (R_assign rfl) rfl ?_
      refine K_nil ?_
      refine Q_then ?_
      refine K_ret ?_
      refine Q_block_ret ?_
      refine Q_then_ret ?_
      refine Q_block_ret ?_
      refine results_gen (rs := [.tmp 4]) (vs := [_]) rfl ⟨rfl, trivial⟩ ?_
      exact ⟨true, rfl, fun _ => ⟨st2, by rw [hbm, hbf], hinv2, _, hvs2, rfl⟩, fun e => by cases e⟩
    ·
      have hnext : buildM a limit F0 st0 = buildM a limit F st2 := by
        rw [hbm, buildM, hrd]
        simp only [Option.bind_some]
        rw [if_neg (by omega)]
      refine K_skip ?_
      refine Q_block ?_
      exact Q_next (F, st2, U, _) ⟨hV.trans hU, ⟨_, hvs2, rfl⟩, hinv2, hnext, (by dsimp only; omega)⟩ (by dsimp only; omega) ⟨rfl, rfl, trivial⟩ rfl rfl
end Go.Proofs.X

namespace Go.Proofs.X
open Go Pal Go.Proofs
attribute [local irreducible] Pal.KO Pal.KC Pal.KQ Pal.KD
theorem z48 : zeroOk Tryz.prog T48 (.slice none 0 0) := .of (by kernel_rfl)
theorem z95 : zeroOk Tryz.prog T95 (.agg #[.slice none 0 0, .int .i64 0, .slice none 0 0, .slice none 0 0, .slice none 0 0, .map none, .slice none 0 0, .map none]) := .of (by kernel_rfl)
theorem pl95 : placesOk Tryz.prog T95 [(0, 4), (4, 1), (5, 1), (6, 1), (7, 1)] := ⟨_, Tryz.underlying131, by kernel_rfl⟩
theorem c77 : callable Tryz.prog F77 = true := by kernel_rfl
theorem c78 : callable Tryz.prog F78 = true := by kernel_rfl
theorem c79 : callable Tryz.prog F79 = true := by kernel_rfl
theorem ap48 : App Tryz.prog T48 T85 3 40 := .of sl48 (by kernel_rfl)
theorem ap90 : App Tryz.prog T90 T48 1 24 := .of sl90 (by kernel_rfl)
theorem newb_spec (a : Au) (haok : AuOk a) (vr vu vf : Value) (H : View) (ha : RepAu H a vr vu vf) : SatO Tryz.prog F78 #[.agg #[vr, .int .i64 a.states, vu, vf]] H []
    (fun v H' q => ∃ B m1 m2 vrules, v = ptr B ∧ RepBy H' a vrules ∧ BE T95 T98 B m1 m2 a vr vu vf vrules ⟨[], []⟩ q) := by
  obtain ⟨ra, rcp, rfl⟩ := ha.r.shape
  obtain ⟨ua, ucp, rfl⟩ := ha.ushape
  have hrl := haok.rl
  have hul := haok.ul
  refine enterO (n := 42) (args := [.agg #[.slice ra a.ranks.length rcp, .int .i64 a.states, .slice ua a.rules.length ucp, vf]]) Tryz.func122 rfl rfl rfl fun w0 => ?_
  refine K_seq ?_
  refine K_region ?_
  refine KA (A_box rfl) rfl fun b1 => ?_
  refine KV (R_assign rfl) rfl ?_
  refine K_nil ?_
  refine Q_then ?_
  refine K_seq ?_
  refine K_regionD (fin := false) (R := [0, 1, 2, 3, 4, 5, 6, 7, 8, 9]) (by kernel_rfl) mixed (.cons_cons _ (List.nil_sublist _)) ?_
  refine D_val rfl rfl rfl (R_loadO ty50 0 rfl rfl rfl rfl (fun e => by cases e) rfl) ?_
  refine D_val rfl rfl rfl (R_fieldAddr 0 fd50_0 rfl) ?_
  refine D_val rfl rfl rfl (R_loadO ty47 0 rfl rfl rfl rfl (fun _ => rfl) rfl) ?_
  refine D_val rfl rfl rfl (R_len sl47 rfl) ?_
  refine D_makeSlice rfl rfl rfl ⟨⟨0, rfl⟩, trivial⟩ (A_makeSlice ap90 z48 ty48 rfl rfl (by omega) (by omega)) fun b10 => ?_
  refine D_alloc rfl rfl rfl (A_makeMap) fun b11 => ?_
  refine D_alloc rfl rfl rfl (A_makeMap) fun b12 => ?_
  refine D_val rfl rfl rfl (R_build z95 pl95 rfl rfl) ?_
  refine D_alloc rfl rfl rfl (A_box rfl) fun b14 => ?_
  refine D_val rfl rfl rfl (R_assign rfl) ?_
  refine D_done ?_
  refine KQ_sel [2, 1, 0, 0, 0] rfl ?_
  refine KQ_mapNew ?_
  refine KQ_front 1 rfl ?_
  refine KQ_mapNew ?_
  refine KQ_sel [3, 2, 2, 1, 0] rfl ?_
  rw [show madeCells (Value.slice none 0 0).cells (a.ranks.length * 1) = headsF nilF a.ranks.length from madeNil _]
  refine KQ_nilrows T85 3 a.ranks.length ?_
  refine Q_then ?_
  refine K_seq ?_
  refine K_seq ?_
  refine K_region ?_
  refine KV (R_fieldAddr 2 fd50_2 rfl) rfl ?_
  refine KV (R_loadO ty48 2 rfl rfl rfl rfl (fun _ => rfl) rfl) rfl ?_
  refine KV (R_len sl48 rfl) rfl ?_
  refine KV (R_move rfl) rfl ?_
  refine K_nil ?_
  refine Q_then ?_
  refine K_block ?_
  refine K_loop (G := Nat × View × Fam) ⟨fun g => [(1, ptr b1), (3, ptr b14), (16, .slice ua a.rules.length ucp), (17, .int .i64 a.rules.length), (18, .int .i64 (g.1 : Int))], fun g => blk b10 (.cells (headsF g.2.2 a.ranks.length) T48 (0, 0)) :: blk b14 (.cells #[.slice ra a.ranks.length rcp, .int .i64 a.states, .slice ua a.rules.length ucp, vf, slc a.ranks.length b10, mp b11, .slice none 0 0, mp b12] T95 (0, 0)) :: blk b1 (.cells #[.slice ra a.ranks.length rcp, .int .i64 a.states, .slice ua a.rules.length ucp, vf] T50 (0, 0)) :: mapO b11 [] :: mapO b12 [] :: rowsF T85 3 g.2.2 a.ranks.length, fun g => g.2.1, fun g => g.1 ≤ a.rules.length ∧ VLe H g.2.1 ∧ ∀ s, s < a.ranks.length → (∃ ad cp, (g.2.2 s).1 = .slice ad (g.2.2 s).2.1 cp) ∧ (g.2.2 s).2.1 = ((a.rules.take g.1).filter (fun r => decide (r.sym = (s : Int)))).length ∧ RepL (RepR g.2.1) 3 ((a.rules.take g.1).filter (fun r => decide (r.sym = (s : Int)))) (g.2.2 s).2.2, fun g => a.rules.length - g.1⟩ (0, H, nilF) ⟨Nat.zero_le _, VLe.refl H, fun s _ => ⟨⟨none, 0, rfl⟩, rfl, .nil⟩⟩ ⟨rfl, rfl, rfl, rfl, rfl, trivial⟩ rfl rfl ?_
  rintro ⟨k, V, f⟩ ⟨hk, hV, hf⟩
  dsimp only at hk hV hf ⊢
  refine K_seq ?_
  refine K_region ?_
  refine KV (R_cmp rfl rfl rfl) rfl ?_
  refine K_nil ?_
  refine Q_then ?_
  refine K_seq ?_
  refine K_if rfl (fun h19 => ?_) (fun h19 => ?_)
  ·
    have hk' : k < a.rules.length := by omega
    obtain ⟨ub, uo, ucp2, xa, xcp, hue, hrc, hsr, hsym, hto, hal⟩ := (ha.mono hV).rule hk'
    cases hue
    obtain ⟨hr1, hr2, hr3, hr4, hr5, hr6⟩ := haok.ru _ (List.getElem_mem hk')
    have hsn : a.rules[k].sym.toNat < a.ranks.length := by omega
    have hcnt := (hf _ hsn).2.1
    have hfl := List.length_filter_le (fun r : Rl => decide (r.sym = (a.rules[k].sym.toNat : Int))) (a.rules.take k)
    have htl := List.length_take_le k a.rules
    refine K_skip ?_
    refine Q_then ?_
    refine K_seq ?_
    refine K_block ?_
    refine K_seq ?_
    refine K_region ?_
    refine KV (R_indexN sl48 ty85 rfl rfl (by omega)) rfl ?_
    refine KV (R_loadH ty85 rfl (hrc) rfl (fun e => by cases e) rfl) rfl ?_
    refine KA (A_alloc z85) rfl fun b5 => ?_
    refine K_store ty85 0 rfl rfl rfl rfl rfl rfl ?_
    refine K_nil ?_
    refine Q_then ?_
    refine K_regionD (fin := true) (R := [0, 1, 2, 3, 4, 5, 6, 7, 8, 9, 10, 11, 12, 13, 14, 15, 16, 17, 18]) (by kernel_rfl) mixed (.cons_cons _ (.cons_cons _ (.cons_cons _ (.cons _ (.cons _ (.cons _ (List.nil_sublist _))))))) ?_
    refine D_val rfl rfl rfl (R_move rfl) ?_
    refine D_val rfl rfl rfl (R_nilCheck rfl) ?_
    refine D_val rfl rfl rfl (R_fieldAddr 4 fd95_1 rfl) ?_
    refine D_val rfl rfl rfl (R_loadO ty90 2 rfl rfl rfl rfl (fun _ => rfl) rfl) ?_
    refine D_val rfl rfl rfl (R_fieldAddr 0 fd85_0 rfl) ?_
    refine D_val rfl rfl rfl (R_loadO ty3 0 rfl rfl rfl rfl (fun _ => rfl) rfl) ?_
    refine D_val rfl rfl rfl (R_move rfl) ?_
    refine D_val rfl rfl rfl (R_nilCheck rfl) ?_
    refine D_val rfl rfl rfl (R_fieldAddr 4 fd95_1 rfl) ?_
    refine D_val rfl rfl rfl (R_loadO ty90 2 rfl rfl rfl rfl (fun _ => rfl) rfl) ?_
    refine D_val rfl rfl rfl (R_fieldAddr 0 fd85_0 rfl) ?_
    refine D_val rfl rfl rfl (R_loadO ty3 0 rfl rfl rfl rfl (fun _ => rfl) rfl) ?_
    refine D_val rfl rfl rfl (R_index sl90 ty48 rfl rfl ⟨by omega, by omega⟩) ?_
    refine D_val rfl rfl rfl (R_loadC ty48 1 rfl rfl (headsF_get (by omega) hsn)) ?_
    refine D_val rfl rfl rfl (R_loadO ty85 0 rfl rfl rfl rfl (fun e => by cases e) rfl) ?_
    refine D_alloc rfl rfl rfl (A_buildSlice (vs := [.agg #[.int .i64 a.rules[k].sym, .slice xa a.rules[k].args.length xcp, .int .i64 a.rules[k].to]]) sl48 ty85 z85 rfl rfl (by simp [Value.cells]) (by simp) rfl (by decide)) fun b37 => ?_
    refine D_append1 (a.rules[k].sym.toNat + 6) ap48 rfl rfl rfl rfl rfl (rowsF_get hsn) ⟨⟨0, rfl⟩, ⟨1, rfl⟩, ⟨2, rfl⟩, trivial⟩ rfl rfl ⟨by omega, by omega⟩ fun a38 k38 hn38 => ?_
    refine D_val rfl rfl rfl (R_index sl90 ty48 rfl rfl ⟨by omega, by omega⟩) ?_
    refine D_lastStoreE ty48 2 rfl rfl rfl rfl rfl rfl (by rw [headsF_size]; show _ + 1 ≤ _; omega) rfl (headsF_put (m := (f a.rules[k].sym.toNat).2.1 + 1) (cs := (f a.rules[k].sym.toNat).2.2 ++ [.int .i64 a.rules[k].sym, .slice xa a.rules[k].args.length xcp, .int .i64 a.rules[k].to]) (by omega) hsn) ?_
    refine KQ_own _ (List.Sublist.cons_cons _ (List.Sublist.cons _ (List.Sublist.refl _))) ?_
    refine KQ_perm _ ((List.perm_append_comm_assoc [_] [_, _, _, _, _] _).trans ((perm_set (rowsF_get hsn)).append_left _)) ?_
    refine Q_block ?_
    refine Q_then ?_
    refine K_region ?_
    refine KV (R_add rfl rfl (by omega)) rfl ?_
    refine KV (R_move rfl) rfl ?_
    refine K_nil ?_
    refine Q_next (k + 1, V, upd1 f a.rules[k].sym.toNat (.slice a38 ((f a.rules[k].sym.toNat).2.1 + 1) k38, (f a.rules[k].sym.toNat).2.1 + 1, (f a.rules[k].sym.toNat).2.2 ++ [.int .i64 a.rules[k].sym, .slice xa a.rules[k].args.length xcp, .int .i64 a.rules[k].to])) ⟨hk', hV, ?_⟩ (by dsimp only; omega) ⟨rfl, rfl, rfl, rfl, rfl, trivial⟩ (by dsimp only; rw [← rowsF_set hsn]; rfl) rfl
    intro s hs
    dsimp only
    obtain ⟨hf1, hf2, hf3⟩ := hf s hs
    rw [filter_take_succ hk']
    by_cases e : s = a.rules[k].sym.toNat
    · subst e
      have e2 : a.rules[k].sym = ((a.rules[k].sym.toNat : Nat) : Int) := by omega
      simp only [upd1, if_true]
      rw [if_pos e2]
      exact ⟨⟨a38, k38, rfl⟩, by rw [hf2, List.length_append]; rfl, hf3.snoc ⟨xa, xcp, rfl, hsr, hsym, hto, hal⟩ rfl⟩
    · have e2 : ¬ a.rules[k].sym = (s : Int) := by omega
      simp only [upd1, e, if_false]
      rw [if_neg e2, List.append_nil]
      exact ⟨hf1, hf2, hf3⟩
  ·
    have hk' : k = a.rules.length := by omega
    subst hk'
    refine K_exit ?_
    refine Q_then_exit ?_
    refine Q_then_exit ?_
    refine Q_block_exit ?_
    refine Q_then ?_
    refine K_seq ?_
    refine K_region ?_
    refine KV (R_move rfl) rfl ?_
    refine KV (R_assign rfl) rfl ?_
    refine K_nil ?_
    refine KQ_pubrows (hl := [_, _, _, _, _]) rfl fun W1 hw1 hrows => ?_
    refine KQ_pubnew (by simp [feet]) fun W2 hw2 hb10 => ?_
    refine KQ_nilrow T98 16 ?_
    refine Q_then ?_
    refine K_ret ?_
    refine results_sel [1, 2, 0, 1] rfl (rs := [.tmp 2]) (vs := [_]) rfl ⟨rfl, trivial⟩ ?_
    refine ⟨b14, b11, b12, slc a.ranks.length b10, rfl, ⟨b10, 0, a.ranks.length, rfl, fun s hs => ?_⟩, nilS, .inl ⟨rfl, rfl⟩, rfl⟩
    obtain ⟨⟨ad, cp, hf1⟩, hf2, hf3⟩ := hf s hs
    rw [List.take_length] at hf2 hf3
    have hsl := ((hrows s hs).sl).mono hw2
    have hro : rulesOf a s = a.rules.filter (fun r => decide (r.sym = (s : Int))) := rfl
    rw [← hro] at hf2 hf3
    rw [hf1, hf2] at hsl
    refine ⟨ad, cp, (f s).2.2, ?_, hsl, RepR.imp3 (hw1.trans hw2) hf3⟩
    have hone := (At.of hb10).one (j := s) (v := (f s).1) (by simp [headsF, hs])
    rw [hf1, hf2] at hone
    simpa using hone

theorem cons_spec (a : Au) (most : Int) (vr vu vf : Value) (H : View) (ha : RepAu H a vr vu vf) : SatO Tryz.prog F42 #[.agg #[vr, .int .i64 a.states, vu, vf], .int .i64 most] H []
    (fun v H' q => ∃ pv, v = .tuple #[pv, .int .i64 (consM a most).1] ∧ match (consM a most).2 with
      | none => pv = .pointer none
      | some st => ∃ B m1 m2 vrules, pv = ptr B ∧ AuOk a ∧ st.Inv (limM most) ∧ RepBy H' a vrules ∧ BE T95 T98 B m1 m2 a vr vu vf vrules st q) := by
  refine enterO (n := 23) (args := [.agg #[vr, .int .i64 a.states, vu, vf], .int .i64 most]) Tryz.func65 rfl rfl rfl fun w0 => ?_
  refine K_seq ?_
  refine K_region ?_
  refine KA (A_box rfl) rfl fun b2 => ?_
  refine KV (R_assign rfl) rfl ?_
  refine KV (R_assign rfl) rfl ?_
  refine K_nil ?_
  refine Q_then ?_
  refine K_seq ?_
  refine K_seq ?_
  refine K_region ?_
  refine KV (R_loadO ty50 0 rfl rfl rfl rfl (fun e => by cases e) rfl) rfl ?_
  refine K_call c77 rfl rfl (ncheck_spec a vr vu vf H ha) ?_
  rintro _ V1 hle1 rfl
  refine KV (R_assign rfl) rfl ?_
  refine K_nil ?_
  refine Q_then ?_
  refine K_seq ?_
  refine K_region ?_
  refine KV (R_move rfl) rfl ?_
  refine KV (R_cmp rfl rfl rfl) rfl ?_
  refine K_nil ?_
  refine Q_then ?_
  refine K_if rfl (fun h11 => ?_) (fun h11 => ?_)
  ·
    refine K_seq ?_
    refine K_region ?_
    refine KV (R_move rfl) rfl ?_
    refine KV (R_assign rfl) rfl ?_
    refine KV (R_assign rfl) rfl ?_
    refine K_nil ?_
    refine Q_then ?_
    refine K_ret ?_
    refine Q_then_ret ?_
    refine results_gen (rs := [.tmp 4, .tmp 5]) (vs := [_, _]) rfl ⟨rfl, ⟨rfl, trivial⟩⟩ ?_
    have hcm : consM a most = (auErr a, none) := by
      unfold consM
      rw [if_pos h11]
    rw [hcm]
    exact ⟨_, rfl, rfl⟩
  ·
    refine K_skip ?_
    refine Q_then ?_
    refine K_seq ?_
    refine K_seq ?_
    refine K_region ?_
    refine KV (R_move rfl) rfl ?_
    refine KV (R_cmp rfl rfl rfl) rfl ?_
    refine K_nil ?_
    refine Q_then ?_
    refine K_if rfl (fun h14 => ?_) (fun h14 => ?_)
    ·
      refine K_seq ?_
      refine K_region ?_
      refine KV (R_assign rfl) rfl ?_
      refine KV (R_assign rfl) rfl ?_
      refine K_nil ?_
      refine Q_then ?_
      refine K_ret ?_
      refine Q_then_ret ?_
      refine results_gen (rs := [.tmp 4, .tmp 5]) (vs := [_, _]) rfl ⟨rfl, ⟨rfl, trivial⟩⟩ ?_
      have hcm : consM a most = (2, none) := by
        unfold consM
        rw [if_neg h11, if_pos h14]
      rw [hcm]
      exact ⟨_, rfl, rfl⟩
    ·
      refine K_skip ?_
      refine Q_then ?_
      refine K_seq ?_
      refine K_region ?_
      refine KV (R_loadO ty50 0 rfl rfl rfl rfl (fun e => by cases e) rfl) rfl ?_
      have haok : AuOk a := AuOk.of (Decidable.not_not.1 h11)
      refine K_callO (first := []) [] [_] (List.Perm.refl _) c78 rfl rfl rfl (newb_spec a haok vr vu vf V1 (ha.mono hle1)) ?_
      rintro _ V2 q hle2 ⟨B, m1, m2, vrules, rfl, hby, hbe⟩
      refine KV (R_assign rfl) rfl ?_
      refine K_nil ?_
      refine Q_then ?_
      refine K_seq ?_
      refine K_seq ?_
      refine K_region ?_
      refine KV (R_move rfl) rfl ?_
      refine KV (R_move rfl) rfl ?_
      refine KV (R_min2 rfl rfl) rfl ?_
      refine K_callO (first := []) q [_] (List.Perm.refl _) c79 rfl rfl rfl (build_spec a haok (limM most) B m1 m2 vr vu vf vrules V2 ((ha.mono (hle1.trans hle2)).r) hby (by simp only [limM]; split <;> omega) ⟨[], []⟩ q 513 hbe (DS.Inv.nil (by simp only [limM]; split <;> omega)) (by simp only [limM, List.length_nil]; split <;> omega)) ?_
      rintro _ V3 q3 hle3 ⟨r, rfl, hr1, hr2⟩
      refine KV (R_not rfl) rfl ?_
      refine K_nil ?_
      refine Q_then ?_
      cases r with
      | false =>
        have hb := hr2 rfl
        have hcm : consM a most = (8, none) := by
          unfold consM
          rw [if_neg h11, if_neg h14, hb]
        refine K_ifT rfl ?_
        refine K_seq ?_
        refine K_region ?_
        refine KV (R_assign rfl) rfl ?_
        refine KV (R_assign rfl) rfl ?_
        refine K_nil ?_
        refine Q_then ?_
        refine K_ret ?_
        refine Q_then_ret ?_
        refine results_gen (rs := [.tmp 4, .tmp 5]) (vs := [_, _]) rfl ⟨rfl, ⟨rfl, trivial⟩⟩ ?_
        rw [hcm]
        exact ⟨_, rfl, rfl⟩
      | true =>
        obtain ⟨st, hb, hinv, hbe2⟩ := hr1 rfl
        have hcm : consM a most = (0, some st) := by
          unfold consM
          rw [if_neg h11, if_neg h14, hb]
        refine K_ifF rfl ?_
        refine K_skip ?_
        refine Q_then ?_
        refine K_seq ?_
        refine K_region ?_
        refine KV (R_move rfl) rfl ?_
        refine KV (R_assign rfl) rfl ?_
        refine KV (R_assign rfl) rfl ?_
        refine K_nil ?_
        refine Q_then ?_
        refine K_ret ?_
        refine KQ_own _ (List.sublist_append_left _ _) ?_
        refine results_gen (rs := [.tmp 4, .tmp 5]) (vs := [_, _]) rfl ⟨rfl, ⟨rfl, trivial⟩⟩ ?_
        rw [hcm]
        exact ⟨_, rfl, B, m1, m2, vrules, rfl, haok, hinv, hby.mono hle3, hbe2⟩
end Go.Proofs.X

namespace Go.Proofs.X
open Go Pal Go.Proofs
attribute [local irreducible] Pal.KO Pal.KC Pal.KQ Pal.KD
theorem ty22 : Ty Tryz.prog T22 false 1 := .of (by kernel_rfl)
theorem ty24 : Ty Tryz.prog T24 true 2 := .of (by kernel_rfl)
theorem ty28 : Ty Tryz.prog T28 false 1 := .of (by kernel_rfl)
theorem ty30 : Ty Tryz.prog T30 true 2 := .of (by kernel_rfl)
theorem sl22 : slcOk Tryz.prog T22 T24 := by unfold slcOk; kernel_rfl
theorem sl28 : slcOk Tryz.prog T28 T30 := by unfold slcOk; kernel_rfl
theorem fd24_0 : fldOk Tryz.prog T24 0 0 = true := by kernel_rfl
theorem fd24_1 : fldOk Tryz.prog T24 1 1 = true := by kernel_rfl
theorem fd30_1 : fldOk Tryz.prog T30 1 1 = true := by kernel_rfl
theorem z30 : zeroOk Tryz.prog T30 (.agg #[.int .i64 0, .slice none 0 0]) := .of (by kernel_rfl)
theorem pl30 : placesOk Tryz.prog T30 [(0, 1), (1, 1)] := ⟨_, Tryz.underlying49, by kernel_rfl⟩
theorem c8 : callable Tryz.prog F8 = true := by kernel_rfl
theorem c11 : callable Tryz.prog F11 = true := by kernel_rfl
theorem ap28 : App Tryz.prog T28 T30 2 32 := .of sl28 (by kernel_rfl)
theorem size_spec : ∀ m t H cs, t.size ≤ m → m ≤ 1099511627776 → RepT H t cs → Sat Tryz.prog F8 #[.agg cs.toArray] H (fun v _ => v = .int .i64 (t.size : Int)) := by
  intro m
  induction m with
  | zero => intro t H cs h; have := t.size_pos; omega
  | succ m ih =>
  intro t H cs hm hb hr
  cases hr with | mk s ts a cap b off cs' hs ha hA hrec =>
  have hsz : (Tr.node s ts).size = 1 + Tr.sizes ts := rfl
  refine enterO (n := 21) (args := [.agg #[.int .i64 s, .slice a ts.length cap]]) Tryz.func31 rfl rfl rfl fun w0 => ?_
  refine K_seq ?_
  refine K_region ?_
  refine KA (A_box rfl) rfl fun b1 => ?_
  refine KV (R_assign rfl) rfl ?_
  refine K_nil ?_
  refine Q_then ?_
  refine K_seq ?_
  refine K_region ?_
  refine KV (R_assign rfl) rfl ?_
  refine K_nil ?_
  refine Q_then ?_
  refine K_seq ?_
  refine K_seq ?_
  refine K_region ?_
  refine KV (R_assign rfl) rfl ?_
  refine K_nil ?_
  refine Q_then ?_
  refine K_block ?_
  refine K_loop (G := Nat × View) ⟨fun g => [(1, .pointer (some ⟨b1, 0, none⟩)), (3, .int .i64 (1 + (Tr.sizes (ts.take g.1) : Int))), (4, .int .i64 (g.1 : Int))], fun g => [blk b1 (.cells #[.int .i64 s, .slice a ts.length cap] T24 (0, 0))], fun g => g.2, fun g => g.1 ≤ ts.length ∧ VLe H g.2, fun g => ts.length - g.1⟩ (0, H) ⟨Nat.zero_le _, VLe.refl H⟩ ⟨rfl, rfl, rfl, trivial⟩ rfl rfl ?_
  rintro ⟨k, V⟩ ⟨hk, hV⟩
  dsimp only at hk hV ⊢
  refine K_seq ?_
  refine K_seq ?_
  refine K_region ?_
  refine KV (R_move rfl) rfl ?_
  refine KV (R_fieldAddr 1 fd24_1 rfl) rfl ?_
  refine KV (R_loadO ty22 0 rfl rfl rfl rfl (fun _ => rfl) rfl) rfl ?_
  refine KV (R_len sl22 rfl) rfl ?_
  refine KV (R_cmp rfl rfl rfl) rfl ?_
  refine K_nil ?_
  refine Q_then ?_
  refine K_if rfl (fun hlt => ?_) (fun hlt => ?_)
  ·
    have hlt' : k < ts.length := by omega
    have hle := Tr.sizes_take_le ts (k + 1)
    have hln := Tr.length_le_sizes ts
    have htk := Tr.sizes_take ts k hlt'
    have ha' := ha (by intro e; subst e; simp at hlt')
    subst ha'
    refine K_skip ?_
    refine Q_then ?_
    refine K_seq ?_
    refine K_block ?_
    refine K_region ?_
    refine KV (R_move rfl) rfl ?_
    refine KV (R_fieldAddr 1 fd24_1 rfl) rfl ?_
    refine KV (R_loadO ty22 0 rfl rfl rfl rfl (fun _ => rfl) rfl) rfl ?_
    refine KV (R_move rfl) rfl ?_
    refine KV (R_indexN sl22 ty24 rfl rfl (by omega)) rfl ?_
    refine KV (R_loadH ty24 rfl ((hA k hlt').2.mono hV) (hA k hlt').1 (fun e => by cases e) rfl) rfl ?_
    refine K_call c8 rfl rfl (ih ts[k] V (cs' k) (by omega) (by omega) ((hrec k hlt').mono hV)) ?_
    rintro u V' hle2 rfl
    refine KV (R_add rfl rfl (by omega)) rfl ?_
    refine KV (R_assign rfl) rfl ?_
    refine K_nil ?_
    refine Q_block ?_
    refine Q_then ?_
    refine K_region ?_
    refine KV (R_move rfl) rfl ?_
    refine KV (R_add rfl rfl (by omega)) rfl ?_
    refine KV (R_assign rfl) rfl ?_
    refine K_nil ?_
    refine Q_next (k + 1, V') ⟨hlt', hV.trans hle2⟩ (by dsimp only; omega) ⟨rfl, ?_, rfl, trivial⟩ rfl rfl
    refine congrArg (fun z => some (Value.int .i64 z)) ?_
    dsimp only
    omega
  ·
    have hk' : k = ts.length := by omega
    subst hk'
    refine K_exit ?_
    refine Q_then_exit ?_
    refine Q_then_exit ?_
    refine Q_block_exit ?_
    refine Q_then ?_
    refine K_seq ?_
    refine K_region ?_
    refine KV (R_move rfl) rfl ?_
    refine KV (R_assign rfl) rfl ?_
    refine K_nil ?_
    refine Q_then ?_
    refine K_ret ?_
    refine results_gen (rs := [.tmp 2]) (vs := [_]) rfl ⟨rfl, trivial⟩ ?_
    rw [List.take_length]
    simp [tupV, Tr.size]

theorem tree_spec : ∀ m t H cs, t.size ≤ m → m ≤ 1099511627776 → RepT H t cs → Sat Tryz.prog F11 #[.agg cs.toArray] H (fun v H' => ∃ ds, v = .agg ds.toArray ∧ RepT H' t ds) := by
  intro m
  induction m with
  | zero => intro t H cs h; have := t.size_pos; omega
  | succ m ih =>
  intro t H cs hm hb hr
  cases hr with | mk s ts a cap b off cs' hs ha hA hrec =>
  have hsz : (Tr.node s ts).size = 1 + Tr.sizes ts := rfl
  have hln := Tr.length_le_sizes ts
  refine enterO (n := 27) (args := [.agg #[.int .i64 s, .slice a ts.length cap]]) Tryz.func17 rfl rfl rfl fun w0 => ?_
  refine K_seq ?_
  refine K_region ?_
  refine KA (A_box rfl) rfl fun b1 => ?_
  refine KA (A_alloc z30) rfl fun b2 => ?_
  refine K_nil ?_
  refine Q_then ?_
  refine K_seq ?_
  refine K_region ?_
  refine KV (R_fieldAddr 0 fd24_0 rfl) rfl ?_
  refine KV (R_loadO ty3 1 rfl rfl rfl rfl (fun _ => rfl) rfl) rfl ?_
  refine KV (R_build z30 pl30 rfl rfl) rfl ?_
  refine KA (A_alloc z30) rfl fun b3 => ?_
  refine K_store ty30 0 rfl rfl rfl rfl rfl rfl ?_
  refine K_nil ?_
  refine Q_then ?_
  refine K_seq ?_
  refine K_seq ?_
  refine K_region ?_
  refine KV (R_assign rfl) rfl ?_
  refine K_nil ?_
  refine Q_then ?_
  refine K_block ?_
  refine K_nilrow T30 2 ?_
  refine K_loop (G := Nat × View × Value × List Value) ⟨fun g => [(1, ptr b1), (2, ptr b2), (3, ptr b3), (4, .int .i64 (g.1 : Int))], fun g => [row g.2.2.1 T30 2 g.1 g.2.2.2, blk b3 (.cells #[.int .i64 s, g.2.2.1] T30 (0, 0)), blk b2 (.cells #[.int .i64 0, .slice none 0 0] T30 (0, 0)), blk b1 (.cells #[.int .i64 s, .slice a ts.length cap] T24 (0, 0))], fun g => g.2.1, fun g => g.1 ≤ ts.length ∧ VLe H g.2.1 ∧ RepL (RepT g.2.1) 2 (ts.take g.1) g.2.2.2 ∧ ∃ a c, g.2.2.1 = .slice a g.1 c, fun g => ts.length - g.1⟩ (0, H, nilS, []) ⟨Nat.zero_le _, VLe.refl H, .nil, _, _, rfl⟩ ⟨rfl, rfl, rfl, rfl, trivial⟩ rfl rfl ?_
  rintro ⟨k, V, rv, xs⟩ ⟨hk, hV, hL, hrv⟩
  dsimp only at hk hV hL hrv ⊢
  obtain ⟨ra, rc, rfl⟩ := hrv
  refine K_seq ?_
  refine K_seq ?_
  refine K_region ?_
  refine KV (R_move rfl) rfl ?_
  refine KV (R_fieldAddr 1 fd24_1 rfl) rfl ?_
  refine KV (R_loadO ty22 3 rfl rfl rfl rfl (fun _ => rfl) rfl) rfl ?_
  refine KV (R_len sl22 rfl) rfl ?_
  refine KV (R_cmp rfl rfl rfl) rfl ?_
  refine K_nil ?_
  refine Q_then ?_
  refine K_if rfl (fun hlt => ?_) (fun hlt => ?_)
  ·
    have hlt' : k < ts.length := by omega
    have htk := Tr.sizes_take ts k hlt'
    have hle := Tr.sizes_take_le ts (k + 1)
    have ha' := ha (by intro e; subst e; simp at hlt')
    subst ha'
    refine K_skip ?_
    refine Q_then ?_
    refine K_seq ?_
    refine K_block ?_
    refine K_regionD (fin := true) (R := [0, 1, 2, 3, 4, 5, 6, 7, 8, 9, 10, 11]) (by kernel_rfl) mixed (.cons _ (.cons_cons _ (.cons _ (.cons_cons _ (List.nil_sublist _))))) ?_
    refine D_val rfl rfl rfl (R_fieldAddr 1 fd30_1 rfl) ?_
    refine D_val rfl rfl rfl (R_loadO ty28 0 rfl rfl rfl rfl (fun _ => rfl) rfl) ?_
    refine D_val rfl rfl rfl (R_fieldAddr 1 fd24_1 rfl) ?_
    refine D_val rfl rfl rfl (R_loadO ty22 1 rfl rfl rfl rfl (fun _ => rfl) rfl) ?_
    refine D_val rfl rfl rfl (R_move rfl) ?_
    refine D_val rfl rfl rfl (R_indexN sl22 ty24 rfl rfl (by omega)) ?_
    refine D_val rfl rfl rfl (R_loadH ty24 rfl ((hA k hlt').2.mono hV) (hA k hlt').1 (fun e => by cases e) rfl) ?_
    refine D_call rfl rfl c11 rfl ⟨⟨1, rfl⟩, ⟨3, rfl⟩, trivial⟩ (ih ts[k] V (cs' k) (by omega) (by omega) ((hrec k hlt').mono hV)) ?_
    rintro u V' hle2 ⟨ds, rfl, hds⟩
    obtain ⟨x0, x1, x2, x3, rfl⟩ := hds.shape
    refine D_alloc rfl rfl rfl (A_buildSlice (vs := [.agg #[.int .i64 x0, .slice x1 x2 x3]]) sl28 ty30 z30 rfl rfl (by simp [Value.cells]) (by simp) rfl (by decide)) fun b23 => ?_
    refine D_append1 0 ap28 rfl rfl rfl rfl rfl rfl ⟨⟨0, rfl⟩, ⟨2, rfl⟩, trivial⟩ rfl rfl ⟨by omega, by omega⟩ fun a24 k24 hn24 => ?_
    refine D_val rfl rfl rfl (R_fieldAddr 1 fd30_1 rfl) ?_
    refine D_lastStore ty28 1 rfl rfl rfl rfl rfl rfl rfl rfl ?_
    refine Q_block ?_
    refine Q_then ?_
    refine K_region ?_
    refine KV (R_move rfl) rfl ?_
    refine KV (R_add rfl rfl (by omega)) rfl ?_
    refine KV (R_assign rfl) rfl ?_
    refine K_nil ?_
    refine Q_next (k + 1, V', .slice a24 (k + 1) k24, xs ++ [.int .i64 x0, .slice x1 x2 x3]) ⟨hlt', hV.trans hle2, ?_, _, _, rfl⟩ (by dsimp only; omega) ⟨rfl, rfl, rfl, rfl, trivial⟩ rfl rfl
    dsimp only
    rw [List.take_succ_eq_append_getElem hlt']
    exact (hL.imp fun x cs h => h.mono hle2).snoc hds hds.two
  ·
    have hk' : k = ts.length := by omega
    subst hk'
    rw [List.take_length] at hL
    refine K_exit ?_
    refine Q_then_exit ?_
    refine Q_then_exit ?_
    refine Q_block_exit ?_
    refine Q_then ?_
    refine K_seq ?_
    refine K_region ?_
    refine KV (R_loadO ty30 1 rfl rfl rfl rfl (fun e => by cases e) rfl) rfl ?_
    refine K_store ty30 2 rfl rfl rfl rfl rfl rfl ?_
    refine K_nil ?_
    refine Q_then ?_
    refine K_ret ?_
    refine KQ_pubrow rfl fun Hp hp hrow => ?_
    refine results_gen (rs := [.cell 2 49]) (vs := [_]) rfl ⟨⟨_, _, _, _, _, _, 1, rfl, rfl, ty30, (fun e => by cases e), rfl, rfl⟩, trivial⟩ ?_
    exact ⟨_, rfl, .of hs hrow.sl (hL.imp fun x cs h => h.mono hp)⟩
end Go.Proofs.X

namespace Go.Proofs.X
open Go Pal Go.Proofs
attribute [local irreducible] Pal.KO Pal.KC Pal.KQ Pal.KD
theorem sl44 : slcOk Tryz.prog T44 T25 := by unfold slcOk; kernel_rfl
theorem z25 : zeroOk Tryz.prog T25 (.slice none 0 0) := .of (by kernel_rfl)
theorem c42 : callable Tryz.prog F42 = true := by kernel_rfl
theorem c43 : callable Tryz.prog F43 = true := by kernel_rfl
theorem ap44 : App Tryz.prog T44 T25 1 24 := .of sl44 (by kernel_rfl)
theorem subsets_spec (a : Au) (most : Int) (vr vu vf : Value) (H : View) (hT : Tab H) (ha : RepAu H a vr vu vf) : Sat Tryz.prog F16 #[.agg #[vr, .int .i64 a.states, vu, vf], .int .i64 most] H
    (fun v H' => ∃ w, v = .tuple #[w, .int .i64 (consM a most).1] ∧ SSI H' w (match (consM a most).2 with | none => [] | some st => st.subs.map els)) := by
  refine enterO (n := 36) (args := [.agg #[vr, .int .i64 a.states, vu, vf], .int .i64 most]) Tryz.func27 rfl rfl rfl fun w0 => ?_
  refine K_seq ?_
  refine K_region ?_
  refine KA (A_box rfl) rfl fun b2 => ?_
  refine KV (R_assign rfl) rfl ?_
  refine KV (R_assign rfl) rfl ?_
  refine K_nil ?_
  refine Q_then ?_
  refine K_seq ?_
  refine K_region ?_
  refine KV (R_loadO ty50 0 rfl rfl rfl rfl (fun e => by cases e) rfl) rfl ?_
  refine KV (R_move rfl) rfl ?_
  refine K_callO (first := []) [] [_] (List.Perm.refl _) c42 rfl rfl rfl (cons_spec a most vr vu vf H ha) ?_
  rintro _ V1 q hle1 ⟨pv, rfl, hpv⟩
  refine KV (R_move rfl) rfl ?_
  refine KV (R_extract rfl rfl) rfl ?_
  refine KV (R_extract rfl rfl) rfl ?_
  refine KV (R_assign rfl) rfl ?_
  refine KV (R_assign rfl) rfl ?_
  refine K_nil ?_
  refine Q_then ?_
  refine K_seq ?_
  refine K_seq ?_
  refine K_region ?_
  refine KV (R_move rfl) rfl ?_
  refine KV (R_cmp rfl rfl rfl) rfl ?_
  refine K_nil ?_
  refine Q_then ?_
  refine K_if rfl (fun h18 => ?_) (fun h18 => ?_)
  ·
    have hcn := consM_ne h18
    refine K_seq ?_
    refine K_region ?_
    refine KV (R_move rfl) rfl ?_
    refine KV (R_assign rfl) rfl ?_
    refine KV (R_assign rfl) rfl ?_
    refine K_nil ?_
    refine Q_then ?_
    refine K_ret ?_
    refine Q_then_ret ?_
    refine results_gen (rs := [.tmp 4, .tmp 5]) (vs := [_, _]) rfl ⟨rfl, ⟨rfl, trivial⟩⟩ ?_
    rw [hcn]
    exact ⟨_, rfl, SSI.nil _ none 0⟩
  ·
    obtain ⟨st, hcs⟩ := consM_eq (a := a) (most := most) (by omega)
    have hc0 : (consM a most).1 = 0 := by omega
    rw [hcs] at hpv
    obtain ⟨B, m1, m2, vrules, rfl, haok, hinv, hby, vsub, hvs, rfl⟩ := hpv
    obtain ⟨sa, scp, rfl⟩ := hvs.shape
    have hle := hinv.le
    have hlm : limM most ≤ 512 := by simp only [limM]; split <;> omega
    refine K_skip ?_
    refine Q_then ?_
    refine K_seq ?_
    refine K_region ?_
    refine KV (R_assign rfl) rfl ?_
    refine K_nil ?_
    refine Q_then ?_
    refine K_seq ?_
    refine K_seq ?_
    refine K_region ?_
    refine KV (R_move rfl) rfl ?_
    refine KV (R_nilCheck rfl) rfl ?_
    refine KV (R_fieldAddr 6 fd95_3 rfl) rfl ?_
    refine KV (R_loadO ty92 0 rfl rfl rfl rfl (fun _ => rfl) rfl) rfl ?_
    refine KV (R_len sl92 rfl) rfl ?_
    refine KV (R_move rfl) rfl ?_
    refine K_nil ?_
    refine Q_then ?_
    refine K_block ?_
    refine K_nilrow T25 1 ?_
    refine K_loop (G := Nat × View × Value × List Value) ⟨fun g => [(2, ptr b2), (8, g.2.2.1), (23, .slice sa st.subs.length scp), (24, .int .i64 st.subs.length), (25, .int .i64 (g.1 : Int))], fun g => [row g.2.2.1 T25 1 g.1 g.2.2.2, blk B (.cells #[vr, .int .i64 a.states, vu, vf, vrules, mp m1, .slice sa st.subs.length scp, mp m2] T95 (0, 0)), mapO m1 (numKV st.subs), row (.slice sa st.subs.length scp) T98 16 st.subs.length (subCells st.subs), mapO m2 (resKV st.res), blk b2 (.cells #[vr, .int .i64 a.states, vu, vf] T50 (0, 0))], fun g => g.2.1, fun g => g.1 ≤ st.subs.length ∧ VLe V1 g.2.1 ∧ RepL (RSI g.2.1) 1 ((st.subs.take g.1).map els) g.2.2.2 ∧ ∃ ad cp, g.2.2.1 = .slice ad g.1 cp, fun g => st.subs.length - g.1⟩ (0, V1, nilS, []) ⟨Nat.zero_le _, VLe.refl V1, .nil, none, 0, rfl⟩ ⟨rfl, rfl, rfl, rfl, rfl, trivial⟩ rfl rfl ?_
    rintro ⟨k, V, w, cells⟩ ⟨hk, hV, hR, hw⟩
    dsimp only at hk hV hR hw ⊢
    obtain ⟨wa, wcp, rfl⟩ := hw
    refine K_seq ?_
    refine K_region ?_
    refine KV (R_cmp rfl rfl rfl) rfl ?_
    refine K_nil ?_
    refine Q_then ?_
    refine K_seq ?_
    refine K_if rfl (fun h26 => ?_) (fun h26 => ?_)
    ·
      have hk' : k < st.subs.length := by omega
      obtain ⟨sg, scp2, hse⟩ : ∃ g cap, Value.slice sa st.subs.length scp = .slice (some ⟨g, 0, none⟩) st.subs.length cap := by
        rcases hvs with ⟨_, h0⟩ | h
        · omega
        · exact h
      cases hse
      refine K_skip ?_
      refine Q_then ?_
      refine K_seq ?_
      refine K_block ?_
      refine K_seq ?_
      refine K_region ?_
      refine KV (R_indexN sl92 ty98 rfl rfl (by omega)) rfl ?_
      refine KV (R_loadRow (v := setV st.subs[k]) ty98 3 rfl rfl rfl (by rw [Nat.zero_add]; exact subCells_get hk') rfl (fun e => by cases e) rfl) rfl ?_
      refine KA (A_alloc z98) rfl fun b10 => ?_
      refine K_storeW ty98 0 rfl rfl rfl rfl rfl rfl rfl ?_
      refine K_nil ?_
      refine Q_then ?_
      refine K_region ?_
      refine KV (R_move rfl) rfl ?_
      refine KV (R_loadW ty98 0 rfl rfl rfl (show Value.agg _ = setV st.subs[k] from rfl)) rfl ?_
      refine K_call c43 rfl rfl (elements_spec st.subs[k] (hinv.bg _ (List.getElem_mem hk')) V (hT.mono (hle1.trans hV))) ?_
      rintro u V2 hle2 hu
      obtain ⟨ea, ecp, rfl⟩ := hu.shape
      refine KA (A_buildSlice (vs := [.slice ea (els st.subs[k]).length ecp]) sl44 ty25 z25 rfl rfl (by simp [Value.cells]) (by simp) rfl (by decide)) rfl fun b32 => ?_
      refine K_append1 1 ap44 rfl rfl rfl rfl rfl rfl ⟨by omega, by omega⟩ rfl fun a33 k33 hn33 => ?_
      refine KV (R_assign rfl) rfl ?_
      refine K_nil ?_
      refine Q_block ?_
      refine Q_then ?_
      refine K_region ?_
      refine KV (R_add rfl rfl (by omega)) rfl ?_
      refine KV (R_move rfl) rfl ?_
      refine K_nil ?_
      refine KQ_sel [0, 1, 1, 1, 1, 1] rfl ?_
      refine Q_next (k + 1, V2, .slice a33 (k + 1) k33, cells ++ [.slice ea (els st.subs[k]).length ecp]) ⟨hk', hV.trans hle2, ?_, _, _, rfl⟩ (by dsimp only; omega) ⟨rfl, rfl, rfl, rfl, rfl, trivial⟩ rfl rfl
      dsimp only
      rw [take_map_succ hk']
      exact (hR.imp fun _ _ h => h.mono hle2).snoc ⟨_, rfl, hu⟩ rfl
    ·
      have hk' : k = st.subs.length := by omega
      subst hk'
      rw [List.take_length] at hR
      refine K_exit ?_
      refine Q_then_exit ?_
      refine Q_then_exit ?_
      refine Q_block_exit ?_
      refine Q_then ?_
      refine K_seq ?_
      refine K_region ?_
      refine KV (R_move rfl) rfl ?_
      refine KV (R_assign rfl) rfl ?_
      refine KV (R_assign rfl) rfl ?_
      refine K_nil ?_
      refine Q_then ?_
      refine K_ret ?_
      refine KQ_pubrow rfl fun Hp hp hrow => ?_
      refine results_gen (rs := [.tmp 4, .tmp 5]) (vs := [_, _]) rfl ⟨rfl, ⟨rfl, trivial⟩⟩ ?_
      rw [hcs, hc0]
      exact ⟨_, rfl, cells, by simpa using hrow.sl, hR.imp fun _ _ h => h.mono hp⟩
end Go.Proofs.X

namespace Go.Proofs.X
open Go Pal Go.Proofs
attribute [local irreducible] Pal.KO Pal.KC Pal.KQ Pal.KD
theorem c2 : callable Tryz.prog F2 = true := by kernel_rfl
theorem ap47 : App Tryz.prog T47 T3 1 8 := .of sl47 (by kernel_rfl)
theorem clone47_spec (xs : List Int) (v : Value) (H : View) (hv : SI H v xs) (hl : xs.length ≤ 1099511627776) : Sat Tryz.prog F45 #[v] H (fun w H' => SI H' w xs) := by
  obtain ⟨a, cp, rfl⟩ := hv.shape
  refine enterO (n := 8) (args := [.slice a xs.length cp]) Tryz.func43 rfl rfl rfl fun w0 => ?_
  refine K_seq ?_
  refine K_region ?_
  refine KV (R_assign rfl) rfl ?_
  refine K_nil ?_
  refine Q_then ?_
  refine K_seq ?_
  refine K_seq ?_
  refine K_region ?_
  refine KV (R_move rfl) rfl ?_
  refine KV (R_sliceNil sl47 rfl rfl) rfl ?_
  refine K_nil ?_
  refine Q_then ?_
  cases a with
  | none =>
    obtain ⟨a2, c2, h2, h3⟩ := hv.1
    cases h2
    have hx0 : xs = [] := by
      rcases h3 with ⟨h3, _⟩ | ⟨b, off, h3, _⟩
      · exact List.eq_nil_of_length_eq_zero h3
      · cases h3
    subst hx0
    refine K_ifT rfl ?_
    refine K_seq ?_
    refine K_region ?_
    refine KV (R_assign rfl) rfl ?_
    refine K_nil ?_
    refine Q_then ?_
    refine K_ret ?_
    refine Q_then_ret ?_
    refine results_gen (rs := [.tmp 2]) (vs := [_]) rfl ⟨rfl, trivial⟩ ?_
    exact ⟨⟨none, 0, rfl, .inl ⟨rfl, rfl⟩⟩, by simp⟩
  | some aa =>
    refine K_ifF rfl ?_
    refine K_skip ?_
    refine Q_then ?_
    refine K_seq ?_
    refine K_region ?_
    refine KA (A_buildSlice (vs := []) sl47 ty3 z3 rfl rfl (by simp) (by simp) rfl (by decide)) rfl fun b5 => ?_
    refine KV (R_move rfl) rfl ?_
    refine K_appendPubH (k := 0) (xs := []) ap47 rfl ⟨_, 0, rfl, .inl ⟨rfl, rfl⟩⟩ rfl rfl hv.1 (by simp [ints]) ⟨by omega, by omega⟩ rfl fun v7 V1 hle1 hv7 => ?_
    refine KV (R_assign rfl) rfl ?_
    refine K_nil ?_
    refine Q_then ?_
    refine K_ret ?_
    refine results_gen (rs := [.tmp 2]) (vs := [_]) rfl ⟨rfl, trivial⟩ ?_
    refine ⟨?_, hv.2⟩
    have h7 := hv7.1
    rw [Nat.zero_add, List.nil_append] at h7
    exact h7

theorem clone25_spec (xs : List Int) (v : Value) (H : View) (hv : SI H v xs) (hl : xs.length ≤ 1099511627776) : Sat Tryz.prog F65 #[v] H (fun w H' => SI H' w xs) := by
  obtain ⟨a, cp, rfl⟩ := hv.shape
  refine enterO (n := 8) (args := [.slice a xs.length cp]) Tryz.func45 rfl rfl rfl fun w0 => ?_
  refine K_seq ?_
  refine K_region ?_
  refine KV (R_assign rfl) rfl ?_
  refine K_nil ?_
  refine Q_then ?_
  refine K_seq ?_
  refine K_seq ?_
  refine K_region ?_
  refine KV (R_move rfl) rfl ?_
  refine KV (R_sliceNil sl25 rfl rfl) rfl ?_
  refine K_nil ?_
  refine Q_then ?_
  cases a with
  | none =>
    obtain ⟨a2, c2, h2, h3⟩ := hv.1
    cases h2
    have hx0 : xs = [] := by
      rcases h3 with ⟨h3, _⟩ | ⟨b, off, h3, _⟩
      · exact List.eq_nil_of_length_eq_zero h3
      · cases h3
    subst hx0
    refine K_ifT rfl ?_
    refine K_seq ?_
    refine K_region ?_
    refine KV (R_assign rfl) rfl ?_
    refine K_nil ?_
    refine Q_then ?_
    refine K_ret ?_
    refine Q_then_ret ?_
    refine results_gen (rs := [.tmp 2]) (vs := [_]) rfl ⟨rfl, trivial⟩ ?_
    exact ⟨⟨none, 0, rfl, .inl ⟨rfl, rfl⟩⟩, by simp⟩
  | some aa =>
    refine K_ifF rfl ?_
    refine K_skip ?_
    refine Q_then ?_
    refine K_seq ?_
    refine K_region ?_
    refine KA (A_buildSlice (vs := []) sl25 ty3 z3 rfl rfl (by simp) (by simp) rfl (by decide)) rfl fun b5 => ?_
    refine KV (R_move rfl) rfl ?_
    refine K_appendPubH (k := 0) (xs := []) ap25 rfl ⟨_, 0, rfl, .inl ⟨rfl, rfl⟩⟩ rfl rfl hv.1 (by simp [ints]) ⟨by omega, by omega⟩ rfl fun v7 V1 hle1 hv7 => ?_
    refine KV (R_assign rfl) rfl ?_
    refine K_nil ?_
    refine Q_then ?_
    refine K_ret ?_
    refine results_gen (rs := [.tmp 2]) (vs := [_]) rfl ⟨rfl, trivial⟩ ?_
    refine ⟨?_, hv.2⟩
    have h7 := hv7.1
    rw [Nat.zero_add, List.nil_append] at h7
    exact h7

theorem outc_spec (a : Au) (st : DS) (limit : Int) (sym : Nat) (args vals : List Int) (B m1 m2 b14 b6 b12 : Nat) (vr vu vf vrules vsub v : Value) (oa : Option Addr) (ocp : Nat) (H : View) (hinv : st.Inv limit) (hv : SI H v args) (hsym : sym ≤ 4096) (hvl : vals.length ≤ 1099511627776)
    (hb6 : At H b6 0 [ptr B]) (hb12 : At H b12 0 [.int .i64 (sym : Int)]) :
    SatO Tryz.prog F49 #[v, ptr b14, ptr b6, ptr b12] H [blk b14 (.cells #[.slice oa vals.length ocp] T25 (0, 0)), row (.slice oa vals.length ocp) T3 1 vals.length (ints vals), blk B (.cells #[vr, .int .i64 a.states, vu, vf, vrules, mp m1, vsub, mp m2] T95 (0, 0)), mapO m1 (numKV st.subs), row vsub T98 16 st.subs.length (subCells st.subs), mapO m2 (resKV st.res)]
      (fun r _ q' => r = .bool true ∧ ∃ oa' ocp', q' = [blk b14 (.cells #[.slice oa' (vals.length + 1) ocp'] T25 (0, 0)), row (.slice oa' (vals.length + 1) ocp') 3 1 (vals.length + 1) (ints (vals ++ [valM st sym args])), blk B (.cells #[vr, .int .i64 a.states, vu, vf, vrules, mp m1, vsub, mp m2] T95 (0, 0)), mapO m1 (numKV st.subs), row vsub T98 16 st.subs.length (subCells st.subs), mapO m2 (resKV st.res)]) := by
  obtain ⟨aa, acp, rfl⟩ := hv.shape
  have hsi : i64ok (sym : Int) := by simp only [i64ok]; omega
  have hko := keyM_ok hsi hv.2
  obtain ⟨kl, hkl⟩ := tri106.key hko
  refine enterO (n := 17) (args := [.slice aa args.length acp, ptr b14, ptr b6, ptr b12]) Tryz.func71 rfl rfl rfl fun w0 => ?_
  refine K_seq ?_
  refine K_region ?_
  refine KV (R_assign rfl) rfl ?_
  refine K_nil ?_
  refine Q_then ?_
  refine K_seq ?_
  refine K_regionD (fin := true) (R := [0, 1, 2, 3, 4, 5, 6, 7, 8, 9, 10, 11]) (by kernel_rfl) mixed (.cons_cons _ (.cons _ (.cons_cons _ (.cons _ (.cons _ (.cons_cons _ (List.nil_sublist _))))))) ?_
  refine D_val rfl rfl rfl (R_loadO ty25 0 rfl rfl rfl rfl (fun _ => rfl) rfl) ?_
  refine D_val rfl rfl rfl (R_loadH ty87 rfl (hb6) rfl (fun _ => rfl) rfl) ?_
  refine D_val rfl rfl rfl (R_nilCheck rfl) ?_
  refine D_val rfl rfl rfl (R_fieldAddr 7 fd95_4 rfl) ?_
  refine D_val rfl rfl rfl (R_loadO ty93 1 rfl rfl rfl rfl (fun _ => rfl) rfl) ?_
  refine D_val rfl rfl rfl (R_loadH ty3 rfl (hb12) rfl (fun _ => rfl) rfl) ?_
  refine D_val rfl rfl rfl (R_move rfl) ?_
  refine D_call rfl rfl c50 rfl ⟨⟨0, rfl⟩, ⟨2, rfl⟩, ⟨5, rfl⟩, trivial⟩ (key_spec sym args _ H hv) ?_
  rintro _ V1 hle1 rfl
  refine D_val rfl rfl rfl (R_lookup kl106 mt93 z3 2 rfl rfl rfl hkl (resKV_keys tri106 hinv.rk) (resKV_opt hinv.rn _)) ?_
  refine D_alloc rfl rfl rfl (A_buildSlice (vs := [.int .i64 (valM st sym args)]) sl25 ty3 z3 rfl rfl (by simp [Value.cells]) (by simp) rfl (by decide)) fun b15 => ?_
  refine D_append1 1 ap25 rfl rfl rfl rfl rfl rfl ⟨⟨0, rfl⟩, ⟨1, rfl⟩, ⟨4, rfl⟩, trivial⟩ rfl rfl ⟨by omega, by omega⟩ fun a16 k16 hn16 => ?_
  refine D_lastStore ty25 1 rfl rfl rfl rfl rfl rfl rfl rfl ?_
  refine Q_then ?_
  refine K_seq ?_
  refine K_region ?_
  refine KV (R_assign rfl) rfl ?_
  refine K_nil ?_
  refine Q_then ?_
  refine K_ret ?_
  refine results_sel [1, 0, 0, 0, 0, 0] rfl (rs := [.tmp 5]) (vs := [_]) rfl ⟨rfl, trivial⟩ ?_
  refine ⟨rfl, a16, k16, ?_⟩
  rw [ints_snoc]
  rfl
end Go.Proofs.X

namespace Go.Proofs.X
open Go Pal Go.Proofs
attribute [local irreducible] Pal.KO Pal.KC Pal.KQ Pal.KD
theorem ty4 : Ty Tryz.prog T4 false 1 := .of (by kernel_rfl)
theorem ty44 : Ty Tryz.prog T44 false 1 := .of (by kernel_rfl)
theorem ty52 : Ty Tryz.prog T52 false 1 := .of (by kernel_rfl)
theorem ty54 : Ty Tryz.prog T54 true 3 := .of (by kernel_rfl)
theorem sl52 : slcOk Tryz.prog T52 T4 := by unfold slcOk; kernel_rfl
theorem fd54_1 : fldOk Tryz.prog T54 1 1 = true := by kernel_rfl
theorem fd54_2 : fldOk Tryz.prog T54 2 2 = true := by kernel_rfl
theorem z4 : zeroOk Tryz.prog T4 (.bool false) := .of (by kernel_rfl)
theorem z54 : zeroOk Tryz.prog T54 (.agg #[.slice none 0 0, .slice none 0 0, .slice none 0 0]) := .of (by kernel_rfl)
theorem z87 : zeroOk Tryz.prog T87 (.pointer none) := .of (by kernel_rfl)
theorem pl54 : placesOk Tryz.prog T54 [(0, 1), (1, 1), (2, 1)] := ⟨_, Tryz.underlying37, by kernel_rfl⟩
theorem c44 : callable Tryz.prog F44 = true := by kernel_rfl
theorem c45 : callable Tryz.prog F45 = true := by kernel_rfl
theorem c46 : callable Tryz.prog F46 = true := by kernel_rfl
theorem c47 : callable Tryz.prog F47 = true := by kernel_rfl
theorem c49 : callable Tryz.prog F49 = true := by kernel_rfl
theorem ap52 : App Tryz.prog T52 T4 1 1 := .of sl52 (by kernel_rfl)
theorem fromNTA_spec (a : Au) (most : Int) (vr vu vf : Value) (H : View) (ha : RepAu H a vr vu vf) : Sat Tryz.prog F18 #[.agg #[vr, .int .i64 a.states, vu, vf], .int .i64 most] H
    (fun v H' => ∃ v1 v2 v3, v = .tuple #[.agg #[v1, v2, v3], .int .i64 (consM a most).1] ∧ RepDt H' (match (consM a most).2 with | none => ⟨[], [], []⟩ | some st => fromM a st) v1 v2 v3) := by
  have hfl := ha.fl
  have hrl0 := ha.rl
  refine enterO (n := 76) (args := [.agg #[vr, .int .i64 a.states, vu, vf], .int .i64 most]) Tryz.func28 rfl rfl rfl fun w0 => ?_
  refine K_seq ?_
  refine K_region ?_
  refine KA (A_box rfl) rfl fun b2 => ?_
  refine KA (A_alloc z54) rfl fun b4 => ?_
  refine KV (R_assign rfl) rfl ?_
  refine K_nil ?_
  refine Q_then ?_
  refine K_seq ?_
  refine K_region ?_
  refine KV (R_loadO ty50 1 rfl rfl rfl rfl (fun e => by cases e) rfl) rfl ?_
  refine KV (R_move rfl) rfl ?_
  refine K_callO (first := []) [] [_, _] (List.Perm.refl _) c42 rfl rfl rfl (cons_spec a most vr vu vf H ha) ?_
  rintro _ V1 q hle1 ⟨pv, rfl, hpv⟩
  obtain ⟨po, rfl⟩ : ∃ po, pv = .pointer po := by
    revert hpv
    split
    · intro h; exact ⟨_, h⟩
    · rintro ⟨B, _, _, _, h, _⟩; exact ⟨_, h⟩
  refine KV (R_move rfl) rfl ?_
  refine KV (R_extract rfl rfl) rfl ?_
  refine KV (R_extract rfl rfl) rfl ?_
  refine KA (A_alloc z87) rfl fun b6 => ?_
  refine K_store ty87 0 rfl rfl rfl rfl rfl rfl ?_
  refine KV (R_assign rfl) rfl ?_
  refine K_nil ?_
  refine Q_then ?_
  refine K_seq ?_
  refine K_seq ?_
  refine K_region ?_
  refine KV (R_move rfl) rfl ?_
  refine KV (R_cmp rfl rfl rfl) rfl ?_
  refine K_nil ?_
  refine Q_then ?_
  refine K_if rfl (fun h22 => ?_) (fun h22 => ?_)
  ·
    have hcn := consM_ne h22
    refine KC_own [_, _] ((List.sublist_append_right _ _).cons _) ?_
    refine K_seq ?_
    refine K_region ?_
    refine KV (R_build z54 pl54 rfl rfl) rfl ?_
    refine KV (R_move rfl) rfl ?_
    refine K_store ty54 0 rfl rfl rfl rfl rfl rfl ?_
    refine KV (R_assign rfl) rfl ?_
    refine K_nil ?_
    refine Q_then ?_
    refine K_ret ?_
    refine Q_then_ret ?_
    refine results_gen (rs := [.cell 4 37, .tmp 5]) (vs := [_, _]) rfl ⟨⟨_, _, _, _, _, _, 0, rfl, rfl, ty54, (fun e => by cases e), rfl, rfl⟩, ⟨rfl, trivial⟩⟩ ?_
    rw [hcn]
    exact ⟨_, _, _, rfl, ⟨⟨none, 0, rfl, .inl ⟨rfl, rfl⟩⟩, by simp⟩, ⟨none, 0, rfl, .inl ⟨rfl, rfl⟩⟩, SSI.nil _ none 0⟩
  ·
    obtain ⟨st, hcs⟩ := consM_eq (a := a) (most := most) (by omega)
    have hc0 : (consM a most).1 = 0 := by omega
    rw [hcs] at hpv
    obtain ⟨B, m1, m2, vrules, hpB, haok, hinv, hby, vsub, hvs, rfl⟩ := hpv
    cases hpB
    obtain ⟨sa, scp, rfl⟩ := hvs.shape
    have hle := hinv.le
    have hlm : limM most ≤ 512 := by simp only [limM]; split <;> omega
    have hrl := haok.rl
    refine KC_pubnew (by simp [feet]) fun V2 hle2 hb6 => ?_
    have hA6 := At.of hb6
    refine K_skip ?_
    refine Q_then ?_
    refine K_seq ?_
    refine K_region ?_
    refine KV (R_fieldAddr 3 fd50_3 rfl) rfl ?_
    refine KV (R_loadO ty25 5 rfl rfl rfl rfl (fun _ => rfl) rfl) rfl ?_
    refine K_call c44 rfl rfl (of_spec a.final vf V2 ((ha.mono (hle1.trans hle2)).f) hfl) ?_
    rintro _ V3 hle3 rfl
    refine KA (A_alloc z98) rfl fun b8 => ?_
    refine K_storeW ty98 0 rfl rfl rfl rfl rfl rfl rfl ?_
    refine K_nil ?_
    refine Q_then ?_
    refine K_seq ?_
    refine K_region ?_
    refine KV (R_fieldAddr 0 fd50_0 rfl) rfl ?_
    refine KV (R_loadO ty47 6 rfl rfl rfl rfl (fun _ => rfl) rfl) rfl ?_
    refine K_call c45 rfl rfl (clone47_spec a.ranks vr V3 ((ha.mono (hle1.trans (hle2.trans hle3))).r) hrl0) ?_
    rintro vrc V4 hle4 hrc
    obtain ⟨ca, ccp, rfl⟩ := hrc.shape
    refine KV (R_build z54 pl54 rfl rfl) rfl ?_
    refine KA (A_alloc z54) rfl fun b9 => ?_
    refine K_store ty54 0 rfl rfl rfl rfl rfl rfl ?_
    refine K_nil ?_
    refine Q_then ?_
    refine K_seq ?_
    refine K_seq ?_
    refine K_region ?_
    refine KV (R_loadH ty87 rfl (hA6.mono (hle3.trans hle4)) rfl (fun _ => rfl) rfl) rfl ?_
    refine KV (R_nilCheck rfl) rfl ?_
    refine KV (R_fieldAddr 6 fd95_3 rfl) rfl ?_
    refine KV (R_loadO ty92 2 rfl rfl rfl rfl (fun _ => rfl) rfl) rfl ?_
    refine KV (R_len sl92 rfl) rfl ?_
    refine KV (R_move rfl) rfl ?_
    refine K_nil ?_
    refine Q_then ?_
    refine K_block ?_
    refine K_nilrow T4 1 ?_
    refine K_loop (G := Nat × View × Value) ⟨fun g => [(4, ptr b4), (6, ptr b6), (2, ptr b2), (8, ptr b8), (9, ptr b9), (35, .slice sa st.subs.length scp), (36, .int .i64 st.subs.length), (37, .int .i64 (g.1 : Int))], fun g => [row g.2.2 T4 1 g.1 (bools ((accM a st).take g.1)), blk b9 (.cells #[.slice ca a.ranks.length ccp, g.2.2, .slice none 0 0] T54 (0, 0)), blk b8 (.cells (setV (ofL a.final)).cells T98 (0, 0)), blk B (.cells #[vr, .int .i64 a.states, vu, vf, vrules, mp m1, .slice sa st.subs.length scp, mp m2] T95 (0, 0)), mapO m1 (numKV st.subs), row (.slice sa st.subs.length scp) T98 16 st.subs.length (subCells st.subs), mapO m2 (resKV st.res), blk b4 (.cells #[.slice none 0 0, .slice none 0 0, .slice none 0 0] T54 (0, 0)), blk b2 (.cells #[vr, .int .i64 a.states, vu, vf] T50 (0, 0))], fun g => g.2.1, fun g => g.1 ≤ st.subs.length ∧ VLe V4 g.2.1 ∧ ∃ ad cp, g.2.2 = .slice ad g.1 cp, fun g => st.subs.length - g.1⟩ (0, V4, nilS) ⟨Nat.zero_le _, VLe.refl V4, none, 0, rfl⟩ ⟨rfl, rfl, rfl, rfl, rfl, rfl, rfl, rfl, trivial⟩ rfl rfl ?_
    rintro ⟨k, V, w⟩ ⟨hk, hVa, hw⟩
    dsimp only at hk hVa hw ⊢
    obtain ⟨wa, wcp, rfl⟩ := hw
    refine K_seq ?_
    refine K_region ?_
    refine KV (R_cmp rfl rfl rfl) rfl ?_
    refine K_nil ?_
    refine Q_then ?_
    refine K_seq ?_
    refine K_if rfl (fun h38 => ?_) (fun h38 => ?_)
    ·
      have hk' : k < st.subs.length := by omega
      obtain ⟨sg, scp2, hse⟩ : ∃ g cap, Value.slice sa st.subs.length scp = .slice (some ⟨g, 0, none⟩) st.subs.length cap := by
        rcases hvs with ⟨_, h0⟩ | h
        · omega
        · exact h
      cases hse
      refine K_skip ?_
      refine Q_then ?_
      refine K_seq ?_
      refine K_block ?_
      refine K_seq ?_
      refine K_region ?_
      refine KV (R_indexN sl92 ty98 rfl rfl (by omega)) rfl ?_
      refine KV (R_loadRow (v := setV st.subs[k]) ty98 5 rfl rfl rfl (by rw [Nat.zero_add]; exact subCells_get hk') rfl (fun e => by cases e) rfl) rfl ?_
      refine KA (A_alloc z98) rfl fun b11 => ?_
      refine K_storeW ty98 0 rfl rfl rfl rfl rfl rfl rfl ?_
      refine K_nil ?_
      refine Q_then ?_
      refine K_regionD (fin := true) (R := [0, 1, 2, 3, 4, 5, 6, 7, 8, 9, 10]) (by kernel_rfl) mixed (.cons_cons _ (.cons _ (.cons_cons _ (.cons_cons _ (.cons_cons _ (.cons_cons _ (.cons_cons _ (.cons_cons _ (.cons_cons _ (.cons_cons _ (List.nil_sublist _))))))))))) ?_
      refine D_val rfl rfl rfl (R_fieldAddr 1 fd54_1 rfl) ?_
      refine D_val rfl rfl rfl (R_loadO ty52 1 rfl rfl rfl rfl (fun _ => rfl) rfl) ?_
      refine D_val rfl rfl rfl (R_loadW ty98 0 rfl rfl rfl (show Value.agg _ = setV st.subs[k] from rfl)) ?_
      refine D_val rfl rfl rfl (R_loadW ty98 2 rfl rfl rfl (show Value.agg _ = setV (ofL a.final) from rfl)) ?_
      refine D_call rfl rfl c46 rfl ⟨⟨0, rfl⟩, ⟨2, rfl⟩, ⟨3, rfl⟩, ⟨4, rfl⟩, ⟨5, rfl⟩, ⟨6, rfl⟩, ⟨7, rfl⟩, ⟨8, rfl⟩, ⟨9, rfl⟩, trivial⟩ (inter_spec st.subs[k] (ofL a.final) (hinv.bg _ (List.getElem_mem hk')) V) ?_
      rintro _ V5 hle5 rfl
      refine D_call rfl rfl c47 rfl ⟨⟨0, rfl⟩, ⟨2, rfl⟩, ⟨3, rfl⟩, ⟨4, rfl⟩, ⟨5, rfl⟩, ⟨6, rfl⟩, ⟨7, rfl⟩, ⟨8, rfl⟩, ⟨9, rfl⟩, trivial⟩ (isEmpty_spec _ (and_big _ (hinv.bg _ (List.getElem_mem hk'))) V5) ?_
      rintro _ V6 hle6 rfl
      refine D_val rfl rfl rfl (R_not rfl) ?_
      refine D_alloc rfl rfl rfl (A_buildSlice (vs := [.bool (!decide (st.subs[k] &&& ofL a.final = 0))]) sl52 ty4 z4 rfl rfl (by simp [Value.cells]) (by simp) rfl (by decide)) fun b48 => ?_
      refine D_append1 1 ap52 rfl rfl rfl rfl rfl rfl ⟨⟨0, rfl⟩, ⟨1, rfl⟩, ⟨2, rfl⟩, ⟨3, rfl⟩, ⟨4, rfl⟩, ⟨5, rfl⟩, ⟨6, rfl⟩, ⟨7, rfl⟩, ⟨8, rfl⟩, trivial⟩ rfl rfl ⟨by omega, by omega⟩ fun a49 k49 hn49 => ?_
      refine D_val rfl rfl rfl (R_fieldAddr 1 fd54_1 rfl) ?_
      refine D_lastStore ty52 2 rfl rfl rfl rfl rfl rfl rfl rfl ?_
      refine Q_block ?_
      refine Q_then ?_
      refine K_region ?_
      refine KV (R_add rfl rfl (by omega)) rfl ?_
      refine KV (R_move rfl) rfl ?_
      refine K_nil ?_
      refine KQ_sel [0, 1, 1, 1, 1, 1, 1, 1, 1] rfl ?_
      exact Q_next (k + 1, V6, .slice a49 (k + 1) k49) ⟨hk', hVa.trans (hle5.trans hle6), _, _, rfl⟩ (by dsimp only; omega) ⟨rfl, rfl, rfl, rfl, rfl, rfl, rfl, rfl, trivial⟩ (by dsimp only; rw [accM_take a st k hk', bools_snoc]; rfl) rfl
    ·
      have hk' : k = st.subs.length := by omega
      subst hk'
      obtain ⟨ra, rcp, rfl⟩ := ha.r.shape
      refine K_exit ?_
      refine Q_then_exit ?_
      refine Q_then_exit ?_
      refine Q_block_exit ?_
      refine Q_then ?_
      refine K_seq ?_
      refine K_seq ?_
      refine K_region ?_
      refine KV (R_fieldAddr 0 fd50_0 rfl) rfl ?_
      refine KV (R_loadO ty47 8 rfl rfl rfl rfl (fun _ => rfl) rfl) rfl ?_
      refine KV (R_len sl47 rfl) rfl ?_
      refine KV (R_move rfl) rfl ?_
      refine K_nil ?_
      refine Q_then ?_
      refine K_block ?_
      refine K_nilrow T25 1 ?_
      refine K_loop (G := Nat × View × Value × List Value) ⟨fun g => [(4, ptr b4), (6, ptr b6), (2, ptr b2), (9, ptr b9), (53, .slice ra a.ranks.length rcp), (54, .int .i64 a.ranks.length), (55, .int .i64 (g.1 : Int))], fun g => [row g.2.2.1 T25 1 g.1 g.2.2.2, row (.slice wa st.subs.length wcp) T4 1 st.subs.length (bools ((accM a st).take st.subs.length)), blk b9 (.cells #[.slice ca a.ranks.length ccp, .slice wa st.subs.length wcp, g.2.2.1] T54 (0, 0)), blk b8 (.cells (setV (ofL a.final)).cells T98 (0, 0)), blk B (.cells #[.slice ra a.ranks.length rcp, .int .i64 a.states, vu, vf, vrules, mp m1, .slice sa st.subs.length scp, mp m2] T95 (0, 0)), mapO m1 (numKV st.subs), row (.slice sa st.subs.length scp) T98 16 st.subs.length (subCells st.subs), mapO m2 (resKV st.res), blk b4 (.cells #[.slice none 0 0, .slice none 0 0, .slice none 0 0] T54 (0, 0)), blk b2 (.cells #[.slice ra a.ranks.length rcp, .int .i64 a.states, vu, vf] T50 (0, 0))], fun g => g.2.1, fun g => g.1 ≤ a.ranks.length ∧ VLe V g.2.1 ∧ RepL (RSI g.2.1) 1 ((List.range g.1).map (toM a st)) g.2.2.2 ∧ ∃ ad cp, g.2.2.1 = .slice ad g.1 cp, fun g => a.ranks.length - g.1⟩ (0, V, nilS, []) ⟨Nat.zero_le _, VLe.refl V, .nil, none, 0, rfl⟩ ⟨rfl, rfl, rfl, rfl, rfl, rfl, rfl, trivial⟩ rfl rfl ?_
      rintro ⟨s, V7, w, cells⟩ ⟨hs, hV, hR, hw⟩
      dsimp only at hs hV hR hw ⊢
      obtain ⟨za, zcp, rfl⟩ := hw
      refine K_seq ?_
      refine K_region ?_
      refine KV (R_cmp rfl rfl rfl) rfl ?_
      refine K_nil ?_
      refine Q_then ?_
      refine K_seq ?_
      refine K_if rfl (fun h56 => ?_) (fun h56 => ?_)
      ·
        have hs' : s < a.ranks.length := by omega
        obtain ⟨rb, ro, rfl, hrk⟩ := ((ha.mono (hle1.trans (hle2.trans (hle3.trans (hle4.trans (hVa.trans hV)))))).r).get hs'
        refine K_skip ?_
        refine Q_then ?_
        refine K_seq ?_
        refine K_block ?_
        refine K_seq ?_
        refine K_region ?_
        refine KV (R_move rfl) rfl ?_
        refine KV (R_indexN sl47 ty3 rfl rfl (by omega)) rfl ?_
        refine KV (R_loadH ty3 rfl (hrk) rfl (fun _ => rfl) rfl) rfl ?_
        refine KA (A_alloc z3) rfl fun b12 => ?_
        refine K_store ty3 0 rfl rfl rfl rfl rfl rfl ?_
        refine KV (R_assign rfl) rfl ?_
        refine K_nil ?_
        refine KQ_pubnew (by simp [feet]) fun W1 hw1 hb12 => ?_
        have hA12 := At.of hb12
        refine Q_then ?_
        refine K_seq ?_
        refine K_region ?_
        refine KA (A_alloc z25) rfl fun b14 => ?_
        refine K_nil ?_
        refine Q_then ?_
        refine K_seq ?_
        refine K_region ?_
        refine KV (R_move rfl) rfl ?_
        refine KV (R_loadH ty87 rfl (hA6.mono (hle3.trans (hle4.trans (hVa.trans (hV.trans hw1))))) rfl (fun _ => rfl) rfl) rfl ?_
        refine KV (R_nilCheck rfl) rfl ?_
        refine KV (R_fieldAddr 6 fd95_3 rfl) rfl ?_
        refine KV (R_loadO ty92 5 rfl rfl rfl rfl (fun _ => rfl) rfl) rfl ?_
        refine KV (R_len sl92 rfl) rfl ?_
        refine KV (R_makeFunc rfl rfl) rfl ?_
        refine KO_nilrow T3 1 ?_
        refine KO_sel [1, 0, 4, 4, 4, 4, 0, 0, 0, 0, 0, 0] rfl ?_
        have hrs := haok.rk s hs'
        obtain ⟨nn, hnn⟩ : ∃ nn : Nat, a.ranks[s] = (nn : Int) := ⟨a.ranks[s].toNat, by omega⟩
        have hnt : a.ranks[s].toNat = nn := by omega
        have hext : (ext st.subs.length nn []).length ≤ 262144 := by rw [ext_len]; exact pow_le2 (by omega) (by omega)
        have hvis : VisitOk Tryz.prog F49 [ptr b14, ptr b6, ptr b12] W1 (ext st.subs.length nn []) (fun pre q => ∃ oa ocp, q = [blk b14 (.cells #[.slice oa (pre.map (valM st s)).length ocp] T25 (0, 0)), row (.slice oa (pre.map (valM st s)).length ocp) 3 1 (pre.map (valM st s)).length (ints (pre.map (valM st s))), blk B (.cells #[.slice (some ⟨rb, ro, none⟩) a.ranks.length rcp, .int .i64 a.states, vu, vf, vrules, mp m1, .slice sa st.subs.length scp, mp m2] T95 (0, 0)), mapO m1 (numKV st.subs), row (.slice sa st.subs.length scp) T98 16 st.subs.length (subCells st.subs), mapO m2 (resKV st.res)]) (fun _ => False) := by
          rintro G pre xs xa len cp p hlen hle ⟨oa, ocp, rfl⟩ hpf hxs hcp
          have hpl := hpf.length_le
          rw [List.length_append] at hpl
          refine SatO.mono' (outc_spec a st (limM most) s xs (pre.map (valM st s)) B m1 m2 b14 b6 b12 _ vu vf vrules _ _ oa ocp G hinv hxs (by omega) (by rw [List.length_map]; omega) (hA6.mono (hle3.trans (hle4.trans (hVa.trans (hV.trans (hw1.trans hle)))))) (hA12.mono hle)) ?_
          rintro v H' q ⟨rfl, oa', ocp', rfl⟩
          refine ⟨true, rfl, fun _ => ⟨oa', ocp', ?_⟩, fun e => by cases e⟩
          simp only [List.map_append, List.map_cons, List.map_nil, List.length_append, List.length_cons, List.length_nil]

        refine K_callO (first := []) [_, _, _, _, _, _] [_, _, _, _, _, _] (List.Perm.refl _) c48 rfl rfl rfl (hnn ▸ tuples_spec nn st.subs.length F49 [ptr b14, ptr b6, ptr b12] _ _ W1 _ hvis c49 (by omega) (by omega) ⟨none, 0, rfl⟩) ?_
        rintro _ U q hu ⟨r, rfl, hr1, hr2⟩
        obtain rfl : r = true := by
          cases r with
          | false => exact (hr2 rfl).elim
          | true => rfl
        obtain ⟨oa, ocp, rfl⟩ := hr1 rfl
        refine K_nil ?_
        refine KQ_front 1 rfl ?_
        refine KQ_pubrow rfl fun U2 hu2 hrowO => ?_
        refine Q_then ?_
        refine K_region ?_
        refine KV (R_fieldAddr 2 fd54_2 rfl) rfl ?_
        refine KV (R_loadO ty44 7 rfl rfl rfl rfl (fun _ => rfl) rfl) rfl ?_
        refine KV (R_loadO ty25 0 rfl rfl rfl rfl (fun _ => rfl) rfl) rfl ?_
        refine KA (A_buildSlice (vs := [.slice oa ((ext st.subs.length nn []).map (valM st s)).length ocp]) sl44 ty25 z25 rfl rfl (by simp [Value.cells]) (by simp) rfl (by decide)) rfl fun b71 => ?_
        refine K_append1 5 ap44 rfl rfl rfl rfl rfl rfl ⟨by omega, by omega⟩ rfl fun a72 k72 hn72 => ?_
        refine KV (R_fieldAddr 2 fd54_2 rfl) rfl ?_
        refine K_store ty44 7 rfl rfl rfl rfl rfl rfl ?_
        refine K_nil ?_
        refine Q_block ?_
        refine Q_then ?_
        refine K_region ?_
        refine KV (R_add rfl rfl (by omega)) rfl ?_
        refine KV (R_move rfl) rfl ?_
        refine K_nil ?_
        refine KQ_sel [0, 5, 5, 5, 1, 1, 1, 1, 1, 1] rfl ?_
        refine Q_next (s + 1, U2, .slice a72 (s + 1) k72, cells ++ [.slice oa ((ext st.subs.length nn []).map (valM st s)).length ocp]) ⟨hs', hV.trans (hw1.trans (hu.trans hu2)), ?_, _, _, rfl⟩ (by dsimp only; omega) ⟨rfl, rfl, rfl, rfl, rfl, rfl, rfl, trivial⟩ rfl rfl
        dsimp only
        rw [range_map_succ]
        have htm : toM a st s = (ext st.subs.length nn []).map (valM st s) := by
          have h : a.ranks.getD s 0 = a.ranks[s] := by simp [List.getD, hs']
          simp only [toM]
          rw [h, hnt]
        rw [htm]
        refine (hR.imp fun _ _ h => h.mono (hw1.trans (hu.trans hu2))).snoc ⟨_, rfl, hrowO.sl, ?_⟩ rfl
        intro x hx
        obtain ⟨ys, _, rfl⟩ := List.mem_map.1 hx
        exact valM_ok hinv (by omega) _ _
      ·
        have hs' : s = a.ranks.length := by omega
        subst hs'
        refine K_exit ?_
        refine Q_then_exit ?_
        refine Q_then_exit ?_
        refine Q_block_exit ?_
        refine Q_then ?_
        refine K_seq ?_
        refine K_region ?_
        refine KV (R_loadO ty54 2 rfl rfl rfl rfl (fun e => by cases e) rfl) rfl ?_
        refine K_store ty54 8 rfl rfl rfl rfl rfl rfl ?_
        refine KV (R_assign rfl) rfl ?_
        refine K_nil ?_
        refine Q_then ?_
        refine K_ret ?_
        refine KQ_front 1 rfl ?_
        refine KQ_pubrow rfl fun HpA hpA hrowA => ?_
        refine KQ_pubrow rfl fun HpB hpB hrowB => ?_
        refine results_gen (rs := [.cell 4 37, .tmp 5]) (vs := [_, _]) rfl ⟨⟨_, _, _, _, _, _, 6, rfl, rfl, ty54, (fun e => by cases e), rfl, rfl⟩, ⟨rfl, trivial⟩⟩ ?_
        rw [hcs, hc0]
        have hal : (accM a st).length = st.subs.length := by simp [accM]
        have hta : (accM a st).take st.subs.length = accM a st := by rw [← hal, List.take_length]
        have hA := hrowA.sl
        rw [hta] at hA
        refine ⟨_, _, _, rfl, ⟨hrc.mono (hVa.trans (hV.trans (hpA.trans hpB))), ?_, cells, ?_, hR.imp fun _ _ h => h.mono (hpA.trans hpB)⟩⟩
        · show SlAt _ _ (accM a st).length _
          rw [hal]
          exact hA.mono hpB
        · have hB := hrowB.sl
          simpa [fromM] using hB
end Go.Proofs.X

namespace Go.Proofs.X
open Go Pal Go.Proofs
attribute [local irreducible] Pal.KO Pal.KC Pal.KQ Pal.KD
theorem c60 : callable Tryz.prog F60 = true := by kernel_rfl
theorem cmpl_spec (xs ys : List Int) (v w : Value) (H : View) (hv : SI H v xs) (hw : SI H w ys) (hx : xs.length ≤ 1099511627776) (hy : ys.length ≤ 1099511627776) : Sat Tryz.prog F60 #[v, w] H (fun r _ => r = .int .i64 (cmpL xs ys)) := by
  obtain ⟨xa, xcp, rfl⟩ := hv.shape
  obtain ⟨ya, ycp, rfl⟩ := hw.shape
  refine enterO (n := 46) (args := [.slice xa xs.length xcp, .slice ya ys.length ycp]) Tryz.func73 rfl rfl rfl fun w0 => ?_
  refine K_seq ?_
  refine K_region ?_
  refine KV (R_assign rfl) rfl ?_
  refine K_nil ?_
  refine Q_then ?_
  refine K_seq ?_
  refine K_seq ?_
  refine K_region ?_
  refine KV (R_assign rfl) rfl ?_
  refine K_nil ?_
  refine Q_then ?_
  refine K_block ?_
  refine K_loop (G := Nat) ⟨fun g => [(0, .slice xa xs.length xcp), (1, .slice ya ys.length ycp), (5, .int .i64 (g : Int))], fun g => [], fun g => H, fun g => g ≤ xs.length ∧ g ≤ ys.length ∧ cmpL xs ys = cmpL (xs.drop g) (ys.drop g), fun g => xs.length - g⟩ 0 ⟨Nat.zero_le _, Nat.zero_le _, rfl⟩ ⟨rfl, rfl, rfl, trivial⟩ rfl rfl ?_
  rintro k ⟨hk1, hk2, hc⟩
  dsimp only at hk1 hk2 hc ⊢
  refine K_seq ?_
  refine K_seq ?_
  refine K_region ?_
  refine KV (R_move rfl) rfl ?_
  refine KV (R_move rfl) rfl ?_
  refine KV (R_len sl25 rfl) rfl ?_
  refine KV (R_cmp rfl rfl rfl) rfl ?_
  refine KV (R_move rfl) rfl ?_
  refine K_split ?_ ?_
  ·
    intro h10
    refine K_gyes rfl rfl ?_
    refine KV (R_move rfl) rfl ?_
    refine K_gyes rfl rfl ?_
    refine KV (R_move rfl) rfl ?_
    refine K_gyes rfl rfl ?_
    refine KV (R_len sl25 rfl) rfl ?_
    refine K_gyes rfl rfl ?_
    refine KV (R_cmp rfl rfl rfl) rfl ?_
    refine KV (R_pickT rfl rfl) rfl ?_
    refine K_nil ?_
    refine Q_then ?_
    refine K_if rfl (fun h15 => ?_) (fun h15 => ?_)
    ·
      have hx1 : k < xs.length := by omega
      have hy1 : k < ys.length := by omega
      obtain ⟨xb, xo, rfl, hxa⟩ := hv.get hx1
      obtain ⟨yb, yo, rfl, hya⟩ := hw.get hy1
      have hcx : cmpL (xs.drop k) (ys.drop k) = if xs[k] < ys[k] then -1 else if ys[k] < xs[k] then 1 else cmpL (xs.drop (k + 1)) (ys.drop (k + 1)) := by
        rw [List.drop_eq_getElem_cons hx1, List.drop_eq_getElem_cons hy1]; rfl
      refine K_skip ?_
      refine Q_then ?_
      refine K_seq ?_
      refine K_block ?_
      refine K_seq ?_
      refine K_seq ?_
      refine K_regionD (fin := false) (R := [0, 1, 2, 3, 4, 5, 6, 7, 8]) (by kernel_rfl) mixed (List.nil_sublist _) ?_
      refine D_val rfl rfl rfl (R_move rfl) ?_
      refine D_val rfl rfl rfl (R_move rfl) ?_
      refine D_val rfl rfl rfl (R_indexN sl25 ty3 rfl rfl (by omega)) ?_
      refine D_val rfl rfl rfl (R_loadH ty3 rfl (hxa) rfl (fun _ => rfl) rfl) ?_
      refine D_val rfl rfl rfl (R_move rfl) ?_
      refine D_val rfl rfl rfl (R_move rfl) ?_
      refine D_val rfl rfl rfl (R_indexN sl25 ty3 rfl rfl (by omega)) ?_
      refine D_val rfl rfl rfl (R_loadH ty3 rfl (hya) rfl (fun _ => rfl) rfl) ?_
      refine D_val rfl rfl rfl (R_cmp rfl rfl rfl) ?_
      refine D_done ?_
      refine Q_then ?_
      refine K_if rfl (fun h26 => ?_) (fun h26 => ?_)
      ·
        refine K_seq ?_
        refine K_region ?_
        refine KV (R_assign rfl) rfl ?_
        refine K_nil ?_
        refine Q_then ?_
        refine K_ret ?_
        refine Q_then_ret ?_
        refine Q_block_ret ?_
        refine Q_then_ret ?_
        refine Q_then_ret ?_
        refine Q_block_ret ?_
        refine Q_then_ret ?_
        refine results_gen (rs := [.tmp 4]) (vs := [_]) rfl ⟨rfl, trivial⟩ ?_
        rw [hc, hcx, if_pos h26]
        rfl
      ·
        refine K_skip ?_
        refine Q_then ?_
        refine K_seq ?_
        refine K_regionD (fin := false) (R := [0, 1, 2, 3, 4, 5, 6, 7, 8]) (by kernel_rfl) mixed (List.nil_sublist _) ?_
        refine D_val rfl rfl rfl (R_move rfl) ?_
        refine D_val rfl rfl rfl (R_move rfl) ?_
        refine D_val rfl rfl rfl (R_indexN sl25 ty3 rfl rfl (by omega)) ?_
        refine D_val rfl rfl rfl (R_loadH ty3 rfl (hxa) rfl (fun _ => rfl) rfl) ?_
        refine D_val rfl rfl rfl (R_move rfl) ?_
        refine D_val rfl rfl rfl (R_move rfl) ?_
        refine D_val rfl rfl rfl (R_indexN sl25 ty3 rfl rfl (by omega)) ?_
        refine D_val rfl rfl rfl (R_loadH ty3 rfl (hya) rfl (fun _ => rfl) rfl) ?_
        refine D_val rfl rfl rfl (R_cmp rfl rfl rfl) ?_
        refine D_done ?_
        refine Q_then ?_
        refine K_if rfl (fun h35 => ?_) (fun h35 => ?_)
        ·
          refine K_seq ?_
          refine K_region ?_
          refine KV (R_assign rfl) rfl ?_
          refine K_nil ?_
          refine Q_then ?_
          refine K_ret ?_
          refine Q_block_ret ?_
          refine Q_then_ret ?_
          refine Q_then_ret ?_
          refine Q_block_ret ?_
          refine Q_then_ret ?_
          refine results_gen (rs := [.tmp 4]) (vs := [_]) rfl ⟨rfl, trivial⟩ ?_
          rw [hc, hcx, if_neg h26, if_pos h35]
          rfl
        ·
          refine K_skip ?_
          refine Q_block ?_
          refine Q_then ?_
          refine K_region ?_
          refine KV (R_move rfl) rfl ?_
          refine KV (R_add rfl rfl (by omega)) rfl ?_
          refine KV (R_assign rfl) rfl ?_
          refine K_nil ?_
          exact Q_next (k + 1) ⟨hx1, hy1, by rw [hc, hcx, if_neg h26, if_neg h35]⟩ (by dsimp only; omega) ⟨rfl, rfl, rfl, trivial⟩ rfl rfl
    ·
      have hend := cmpL_end hk1 hk2 (.inr (by omega))
      refine K_exit ?_
      refine Q_then_exit ?_
      refine Q_then_exit ?_
      refine Q_block_exit ?_
      refine Q_then ?_
      refine K_seq ?_
      refine K_seq ?_
      refine K_region ?_
      refine KV (R_move rfl) rfl ?_
      refine KV (R_len sl25 rfl) rfl ?_
      refine KV (R_move rfl) rfl ?_
      refine KV (R_len sl25 rfl) rfl ?_
      refine KV (R_cmp rfl rfl rfl) rfl ?_
      refine K_nil ?_
      refine Q_then ?_
      refine K_if rfl (fun h40 => ?_) (fun h40 => ?_)
      ·
        refine K_seq ?_
        refine K_region ?_
        refine KV (R_assign rfl) rfl ?_
        refine K_nil ?_
        refine Q_then ?_
        refine K_ret ?_
        refine Q_then_ret ?_
        refine results_gen (rs := [.tmp 4]) (vs := [_]) rfl ⟨rfl, trivial⟩ ?_
        rw [hc, hend, if_pos (by omega)]
        rfl
      ·
        refine K_skip ?_
        refine Q_then ?_
        refine K_seq ?_
        refine K_seq ?_
        refine K_region ?_
        refine KV (R_move rfl) rfl ?_
        refine KV (R_len sl25 rfl) rfl ?_
        refine KV (R_move rfl) rfl ?_
        refine KV (R_len sl25 rfl) rfl ?_
        refine KV (R_cmp rfl rfl rfl) rfl ?_
        refine K_nil ?_
        refine Q_then ?_
        refine K_if rfl (fun h45 => ?_) (fun h45 => ?_)
        ·
          refine K_seq ?_
          refine K_region ?_
          refine KV (R_assign rfl) rfl ?_
          refine K_nil ?_
          refine Q_then ?_
          refine K_ret ?_
          refine Q_then_ret ?_
          refine results_gen (rs := [.tmp 4]) (vs := [_]) rfl ⟨rfl, trivial⟩ ?_
          rw [hc, hend, if_neg (by omega), if_pos (by omega)]
          rfl
        ·
          refine K_skip ?_
          refine Q_then ?_
          refine K_seq ?_
          refine K_region ?_
          refine KV (R_assign rfl) rfl ?_
          refine K_nil ?_
          refine Q_then ?_
          refine K_ret ?_
          refine results_gen (rs := [.tmp 4]) (vs := [_]) rfl ⟨rfl, trivial⟩ ?_
          rw [hc, hend, if_neg (by omega), if_neg (by omega)]
          rfl
  ·
    intro h10
    have hend := cmpL_end hk1 hk2 (.inl (by omega))
    refine K_gno rfl rfl rfl rfl ?_
    refine K_gno rfl rfl rfl rfl ?_
    refine K_gno rfl rfl rfl rfl ?_
    refine K_gno rfl rfl rfl rfl ?_
    refine KV (R_pickF rfl rfl) rfl ?_
    refine K_nil ?_
    refine Q_then ?_
    refine K_ifF rfl ?_
    refine K_exit ?_
    refine Q_then_exit ?_
    refine Q_then_exit ?_
    refine Q_block_exit ?_
    refine Q_then ?_
    refine K_seq ?_
    refine K_seq ?_
    refine K_region ?_
    refine KV (R_move rfl) rfl ?_
    refine KV (R_len sl25 rfl) rfl ?_
    refine KV (R_move rfl) rfl ?_
    refine KV (R_len sl25 rfl) rfl ?_
    refine KV (R_cmp rfl rfl rfl) rfl ?_
    refine K_nil ?_
    refine Q_then ?_
    refine K_if rfl (fun h40 => ?_) (fun h40 => ?_)
    ·
      refine K_seq ?_
      refine K_region ?_
      refine KV (R_assign rfl) rfl ?_
      refine K_nil ?_
      refine Q_then ?_
      refine K_ret ?_
      refine Q_then_ret ?_
      refine results_gen (rs := [.tmp 4]) (vs := [_]) rfl ⟨rfl, trivial⟩ ?_
      rw [hc, hend, if_pos (by omega)]
      rfl
    ·
      refine K_skip ?_
      refine Q_then ?_
      refine K_seq ?_
      refine K_seq ?_
      refine K_region ?_
      refine KV (R_move rfl) rfl ?_
      refine KV (R_len sl25 rfl) rfl ?_
      refine KV (R_move rfl) rfl ?_
      refine KV (R_len sl25 rfl) rfl ?_
      refine KV (R_cmp rfl rfl rfl) rfl ?_
      refine K_nil ?_
      refine Q_then ?_
      refine K_if rfl (fun h45 => ?_) (fun h45 => ?_)
      ·
        refine K_seq ?_
        refine K_region ?_
        refine KV (R_assign rfl) rfl ?_
        refine K_nil ?_
        refine Q_then ?_
        refine K_ret ?_
        refine Q_then_ret ?_
        refine results_gen (rs := [.tmp 4]) (vs := [_]) rfl ⟨rfl, trivial⟩ ?_
        rw [hc, hend, if_neg (by omega), if_pos (by omega)]
        rfl
      ·
        refine K_skip ?_
        refine Q_then ?_
        refine K_seq ?_
        refine K_region ?_
        refine KV (R_assign rfl) rfl ?_
        refine K_nil ?_
        refine Q_then ?_
        refine K_ret ?_
        refine results_gen (rs := [.tmp 4]) (vs := [_]) rfl ⟨rfl, trivial⟩ ?_
        rw [hc, hend, if_neg (by omega), if_neg (by omega)]
        rfl

theorem same_spec (xs ys : List Int) (v w : Value) (H : View) (hv : SI H v xs) (hw : SI H w ys) (hx : xs.length ≤ 1099511627776) (hy : ys.length ≤ 1099511627776) : Sat Tryz.prog F22 #[v, w] H (fun r _ => r = .bool (decide (xs = ys))) := by
  refine enterO (n := 9) (args := [v, w]) Tryz.func29 rfl rfl rfl fun w0 => ?_
  refine K_seq ?_
  refine K_region ?_
  refine KV (R_assign rfl) rfl ?_
  refine K_nil ?_
  refine Q_then ?_
  refine K_seq ?_
  refine K_region ?_
  refine KV (R_move rfl) rfl ?_
  refine KV (R_move rfl) rfl ?_
  refine K_call c60 rfl rfl (cmpl_spec xs ys v w H hv hw hx hy) ?_
  rintro _ V' hle rfl
  refine KV (R_cmp rfl rfl rfl) rfl ?_
  refine KV (R_assign rfl) rfl ?_
  refine K_nil ?_
  refine Q_then ?_
  refine K_ret ?_
  refine results_gen (rs := [.tmp 4]) (vs := [_]) rfl ⟨rfl, trivial⟩ ?_
  refine congrArg Value.bool ?_
  simp only [decide_eq_decide]
  exact cmpL_eq
end Go.Proofs.X

namespace Go.Proofs.X
open Go Pal Go.Proofs
attribute [local irreducible] Pal.KO Pal.KC Pal.KQ Pal.KD
theorem z50 : zeroOk Tryz.prog T50 (.agg #[.slice none 0 0, .int .i64 0, .slice none 0 0, .slice none 0 0]) := .of (by kernel_rfl)
theorem pl50 : placesOk Tryz.prog T50 [(0, 1), (1, 1), (2, 1), (3, 1)] := ⟨_, Tryz.underlying71, by kernel_rfl⟩
theorem pl85 : placesOk Tryz.prog T85 [(0, 1), (1, 1), (2, 1)] := ⟨_, Tryz.underlying68, by kernel_rfl⟩
theorem c16 : callable Tryz.prog F16 = true := by kernel_rfl
theorem c18 : callable Tryz.prog F18 = true := by kernel_rfl
theorem c22 : callable Tryz.prog F22 = true := by kernel_rfl
theorem known_spec (H : View) (hT : Tab H) : Sat Tryz.prog F7 #[] H (fun v _ => v = .bool true) := by
  obtain ⟨st, hkn, hels, hacc⟩ := known_cons
  refine enterO (n := 75) (args := []) Tryz.func5 rfl rfl rfl fun w0 => ?_
  refine K_seq ?_
  refine K_region ?_
  refine KV (R_assign rfl) rfl ?_
  refine K_nil ?_
  refine Q_then ?_
  refine K_seq ?_
  refine K_region ?_
  refine KA (A_buildSlice (vs := [.int .i64 0, .int .i64 2]) sl47 ty3 z3 rfl rfl (by simp [Value.cells]) (by simp) rfl (by decide)) rfl fun b6 => ?_
  refine KV (R_build z85 pl85 rfl rfl) rfl ?_
  refine KV (R_build z85 pl85 rfl rfl) rfl ?_
  refine KA (A_buildSlice (vs := [.int .i64 0, .int .i64 1]) sl25 ty3 z3 rfl rfl (by simp [Value.cells]) (by simp) rfl (by decide)) rfl fun b9 => ?_
  refine KV (R_build z85 pl85 rfl rfl) rfl ?_
  refine KA (A_buildSlice (vs := [.agg #[.int .i64 0, .slice none 0 0, .int .i64 0], .agg #[.int .i64 0, .slice none 0 0, .int .i64 1], .agg #[.int .i64 1, slc 2 b9, .int .i64 1]]) sl48 ty85 z85 rfl rfl (by simp [Value.cells]) (by simp) rfl (by decide)) rfl fun b11 => ?_
  refine KA (A_buildSlice (vs := [.int .i64 1]) sl25 ty3 z3 rfl rfl (by simp [Value.cells]) (by simp) rfl (by decide)) rfl fun b12 => ?_
  refine KV (R_build z50 pl50 rfl rfl) rfl ?_
  refine KA (A_alloc z50) rfl fun b1 => ?_
  refine K_store ty50 0 rfl rfl rfl rfl rfl rfl ?_
  refine K_nil ?_
  refine KQ_front 1 rfl ?_
  refine KQ_pubnew (by simp [feet]) fun V1 hv1 hb12 => ?_
  refine KQ_front 1 rfl ?_
  refine KQ_pubnew (by simp [feet]) fun V2 hv2 hb11 => ?_
  refine KQ_front 1 rfl ?_
  refine KQ_pubnew (by simp [feet]) fun V3 hv3 hb9 => ?_
  refine KQ_front 1 rfl ?_
  refine KQ_pubnew (by simp [feet]) fun V4 hv4 hb6 => ?_
  have hi : ∀ x : Int, x = 0 ∨ x = 1 ∨ x = 2 → i64ok x := by intro x hx; simp only [i64ok]; omega
  have hsn : ∀ V, SI V (.slice none 0 0) [] := fun V => ⟨⟨none, 0, rfl, .inl ⟨rfl, rfl⟩⟩, by simp⟩
  have hs9 : SI V4 (slc 2 b9) [0, 1] := ⟨⟨_, _, rfl, .inr ⟨b9, 0, rfl, (At.of hb9).mono hv4⟩⟩, fun x hx => hi x (by simp at hx; omega)⟩
  have hrep : RepAu V4 knownA (slc 2 b6) (slc 3 b11) (slc 1 b12) := by
    refine ⟨⟨⟨_, _, rfl, .inr ⟨b6, 0, rfl, At.of hb6⟩⟩, fun x hx => hi x (by simp [knownA] at hx; omega)⟩, ⟨_, ⟨_, _, rfl, .inr ⟨b11, 0, rfl, (At.of hb11).mono (hv3.trans hv4)⟩⟩, ?_⟩, ⟨⟨_, _, rfl, .inr ⟨b12, 0, rfl, (At.of hb12).mono (hv2.trans (hv3.trans hv4))⟩⟩, fun x hx => hi x (by simp [knownA] at hx; omega)⟩, hi 2 (by simp), by decide, by decide, by decide⟩
    have r1 : RepR V4 ⟨0, [], 0⟩ [.int .i64 0, .slice none 0 0, .int .i64 0] := ⟨none, 0, rfl, hsn _, hi 0 (by simp), hi 0 (by simp), by decide⟩
    have r2 : RepR V4 ⟨0, [], 1⟩ [.int .i64 0, .slice none 0 0, .int .i64 1] := ⟨none, 0, rfl, hsn _, hi 0 (by simp), hi 1 (by simp), by decide⟩
    have r3 : RepR V4 ⟨1, [0, 1], 1⟩ [.int .i64 1, slc 2 b9, .int .i64 1] := ⟨_, _, rfl, hs9, hi 1 (by simp), hi 1 (by simp), by decide⟩
    exact ((RepL.one r1 rfl).snoc r2 rfl).snoc r3 rfl
  have hT4 : Tab V4 := hT.mono (hv1.trans (hv2.trans (hv3.trans hv4)))
  refine Q_then ?_
  refine K_seq ?_
  refine K_region ?_
  refine KV (R_loadO ty50 0 rfl rfl rfl rfl (fun e => by cases e) rfl) rfl ?_
  refine K_call c16 rfl rfl (subsets_spec knownA 9 (slc 2 b6) (slc 3 b11) (slc 1 b12) V4 hT4 hrep) ?_
  rintro _ V5 hv5 ⟨w, rfl, hw⟩
  rw [hkn] at hw ⊢
  dsimp only at hw
  rw [hels] at hw
  obtain ⟨wa, wcp, rfl⟩ := hw.shape
  refine KV (R_move rfl) rfl ?_
  refine KV (R_extract rfl rfl) rfl ?_
  refine KV (R_extract rfl rfl) rfl ?_
  refine KV (R_assign rfl) rfl ?_
  refine KV (R_assign rfl) rfl ?_
  refine K_nil ?_
  refine Q_then ?_
  refine K_seq ?_
  refine K_region ?_
  refine KV (R_loadO ty50 0 rfl rfl rfl rfl (fun e => by cases e) rfl) rfl ?_
  refine K_call c18 rfl rfl (fromNTA_spec knownA 9 (slc 2 b6) (slc 3 b11) (slc 1 b12) V5 (hrep.mono hv5)) ?_
  rintro _ V6 hv6 ⟨v1, v2, v3, rfl, hd⟩
  rw [hkn] at hd ⊢
  dsimp only at hd
  have hac : SB V6 v2 [true, true, false] := hacc ▸ hd.a
  obtain ⟨da, dcp, rfl⟩ := hd.r.shape
  obtain ⟨ta, tcp, rfl⟩ := hd.t.shape
  obtain ⟨ca, ccp, rfl, _⟩ := id hac
  have hw6 := hw.mono hv6
  obtain ⟨wb, wo, e0, kc0, hwa, h0, s0⟩ := hw6.get (i := 0) (by decide)
  subst hwa
  obtain ⟨wb1, wo1, e1, kc1, hwa1, h1, s1⟩ := hw6.get (i := 1) (by decide)
  cases hwa1
  obtain ⟨wb2, wo2, e2, kc2, hwa2, h2, s2⟩ := hw6.get (i := 2) (by decide)
  cases hwa2
  obtain ⟨cb, co, hca, ha1⟩ := hac.get (i := 1) (by decide)
  subst hca
  obtain ⟨cb2, co2, hca2, ha2⟩ := hac.get (i := 2) (by decide)
  cases hca2
  refine KV (R_move rfl) rfl ?_
  refine KV (R_extract rfl rfl) rfl ?_
  refine KV (R_extract rfl rfl) rfl ?_
  refine KA (A_alloc z54) rfl fun b4 => ?_
  refine K_store ty54 0 rfl rfl rfl rfl rfl rfl ?_
  refine KV (R_assign rfl) rfl ?_
  refine K_nil ?_
  refine Q_then ?_
  refine K_seq ?_
  refine K_region ?_
  refine KV (R_move rfl) rfl ?_
  refine KV (R_cmp rfl rfl rfl) rfl ?_
  refine KV (R_move rfl) rfl ?_
  refine K_split ?_ ?_
  ·
    intro h26
    refine K_gyes rfl rfl ?_
    refine KV (R_move rfl) rfl ?_
    refine K_gyes rfl rfl ?_
    refine KV (R_cmp rfl rfl rfl) rfl ?_
    refine KV (R_pickT rfl rfl) rfl ?_
    refine KV (R_move rfl) rfl ?_
    refine K_split ?_ ?_
    ·
      intro h30
      refine K_gyes rfl rfl ?_
      refine KV (R_move rfl) rfl ?_
      refine K_gyes rfl rfl ?_
      refine KV (R_len sl44 rfl) rfl ?_
      refine K_gyes rfl rfl ?_
      refine KV (R_cmp rfl rfl rfl) rfl ?_
      refine KV (R_pickT rfl rfl) rfl ?_
      refine KV (R_move rfl) rfl ?_
      refine K_split ?_ ?_
      ·
        intro h35
        refine K_gyes rfl rfl ?_
        refine KV (R_move rfl) rfl ?_
        refine K_gyes rfl rfl ?_
        refine KV (R_index sl44 ty25 rfl rfl ⟨by decide, by decide⟩) rfl ?_
        refine K_gyes rfl rfl ?_
        refine KV (R_loadH ty25 rfl (h0) rfl (fun _ => rfl) rfl) rfl ?_
        refine K_gyes rfl rfl ?_
        refine KA (A_buildSlice (vs := [.int .i64 0, .int .i64 1]) sl25 ty3 z3 rfl rfl (by simp [Value.cells]) (by simp) rfl (by decide)) rfl fun b39 => ?_
        refine KO_pubnew (by simp [feet]) fun W1 hw1 hb39 => ?_
        refine K_gyes rfl rfl ?_
        refine K_call c22 rfl rfl (same_spec _ [0, 1] _ _ W1 (s0.mono hw1) ⟨⟨_, _, rfl, .inr ⟨b39, 0, rfl, At.of hb39⟩⟩, fun x hx => hi x (by simp at hx; omega)⟩ (by decide) (by decide)) ?_
        rintro _ W2 hw2 rfl
        refine KV (R_pickT rfl rfl) rfl ?_
        refine KV (R_move rfl) rfl ?_
        refine K_split ?_ ?_
        ·
          intro h42
          refine K_gyes rfl rfl ?_
          refine KV (R_move rfl) rfl ?_
          refine K_gyes rfl rfl ?_
          refine KV (R_index sl44 ty25 rfl rfl ⟨by decide, by decide⟩) rfl ?_
          refine K_gyes rfl rfl ?_
          refine KV (R_loadH ty25 rfl (h1.mono (hw1.trans hw2)) rfl (fun _ => rfl) rfl) rfl ?_
          refine K_gyes rfl rfl ?_
          refine KA (A_buildSlice (vs := [.int .i64 1]) sl25 ty3 z3 rfl rfl (by simp [Value.cells]) (by simp) rfl (by decide)) rfl fun b46 => ?_
          refine KO_pubnew (by simp [feet]) fun W3 hw3 hb46 => ?_
          refine K_gyes rfl rfl ?_
          refine K_call c22 rfl rfl (same_spec _ [1] _ _ W3 (s1.mono (hw1.trans (hw2.trans hw3))) ⟨⟨_, _, rfl, .inr ⟨b46, 0, rfl, At.of hb46⟩⟩, fun x hx => hi x (by simp at hx; omega)⟩ (by decide) (by decide)) ?_
          rintro _ W4 hw4 rfl
          refine KV (R_pickT rfl rfl) rfl ?_
          refine KV (R_move rfl) rfl ?_
          refine K_split ?_ ?_
          ·
            intro h49
            refine K_gyes rfl rfl ?_
            refine KV (R_move rfl) rfl ?_
            refine K_gyes rfl rfl ?_
            refine KV (R_index sl44 ty25 rfl rfl ⟨by decide, by decide⟩) rfl ?_
            refine K_gyes rfl rfl ?_
            refine KV (R_loadH ty25 rfl (h2.mono (hw1.trans (hw2.trans (hw3.trans hw4)))) rfl (fun _ => rfl) rfl) rfl ?_
            refine K_gyes rfl rfl ?_
            refine KV (R_len sl25 rfl) rfl ?_
            refine K_gyes rfl rfl ?_
            refine KV (R_cmp rfl rfl rfl) rfl ?_
            refine KV (R_pickT rfl rfl) rfl ?_
            refine KV (R_move rfl) rfl ?_
            refine K_split ?_ ?_
            ·
              intro h56
              refine K_gyes rfl rfl ?_
              refine KV (R_fieldAddr 1 fd54_1 rfl) rfl ?_
              refine K_gyes rfl rfl ?_
              refine KV (R_loadO ty52 0 rfl rfl rfl rfl (fun _ => rfl) rfl) rfl ?_
              refine K_gyes rfl rfl ?_
              refine KV (R_len sl52 rfl) rfl ?_
              refine K_gyes rfl rfl ?_
              refine KV (R_cmp rfl rfl rfl) rfl ?_
              refine KV (R_pickT rfl rfl) rfl ?_
              refine KV (R_move rfl) rfl ?_
              refine K_split ?_ ?_
              ·
                intro h62
                refine K_gyes rfl rfl ?_
                refine KV (R_fieldAddr 1 fd54_1 rfl) rfl ?_
                refine K_gyes rfl rfl ?_
                refine KV (R_loadO ty52 0 rfl rfl rfl rfl (fun _ => rfl) rfl) rfl ?_
                refine K_gyes rfl rfl ?_
                refine KV (R_index sl52 ty4 rfl rfl ⟨by decide, by decide⟩) rfl ?_
                refine K_gyes rfl rfl ?_
                refine KV (R_loadH ty4 rfl (ha1.mono (hw1.trans (hw2.trans (hw3.trans hw4)))) rfl (fun _ => rfl) rfl) rfl ?_
                refine KV (R_pickT rfl rfl) rfl ?_
                refine KV (R_move rfl) rfl ?_
                refine K_splitB ?_ ?_
                ·
                  intro h68
                  refine K_gyes rfl rfl ?_
                  refine KV (R_fieldAddr 1 fd54_1 rfl) rfl ?_
                  refine K_gyes rfl rfl ?_
                  refine KV (R_loadO ty52 0 rfl rfl rfl rfl (fun _ => rfl) rfl) rfl ?_
                  refine K_gyes rfl rfl ?_
                  refine KV (R_index sl52 ty4 rfl rfl ⟨by decide, by decide⟩) rfl ?_
                  refine K_gyes rfl rfl ?_
                  refine KV (R_loadH ty4 rfl (ha2.mono (hw1.trans (hw2.trans (hw3.trans hw4)))) rfl (fun _ => rfl) rfl) rfl ?_
                  refine K_gyes rfl rfl ?_
                  refine KV (R_not rfl) rfl ?_
                  refine KV (R_pickT rfl rfl) rfl ?_
                  refine KV (R_assign rfl) rfl ?_
                  refine K_nil ?_
                  refine Q_then ?_
                  refine K_ret ?_
                  refine results_gen (rs := [.tmp 0]) (vs := [_]) rfl ⟨rfl, trivial⟩ ?_
                  rfl
                ·
                  intro h68
                  exact absurd h68 (by decide)
              ·
                intro h62
                exact absurd (by decide) h62
            ·
              intro h56
              exact absurd (by decide) h56
          ·
            intro h49
            exact absurd (by decide) h49
        ·
          intro h42
          exact absurd (by decide) h42
      ·
        intro h35
        exact absurd (by decide) h35
    ·
      intro h30
      exact absurd (rfl) h30
  ·
    intro h26
    exact absurd (rfl) h26
end Go.Proofs.X

namespace Go.Proofs.X
open Go Pal Go.Proofs
attribute [local irreducible] Pal.KO Pal.KC Pal.KQ Pal.KD

theorem rcheck31_spec (xs : List Int) (v : Value) (H : View) (hv : SI H v xs) (hl : xs.length ≤ 1099511627776) : Sat Tryz.prog F36 #[v] H (fun r _ => r = .int .i64 (ranksErr xs)) := by
  obtain ⟨a, cp, rfl⟩ := hv.shape
  refine enterO (n := 40) (args := [.slice a xs.length cp]) Tryz.func8 rfl rfl rfl fun w0 => ?_
  refine K_seq ?_
  refine K_region ?_
  refine KV (R_assign rfl) rfl ?_
  refine K_nil ?_
  refine Q_then ?_
  refine K_seq ?_
  refine K_seq ?_
  refine K_region ?_
  refine KV (R_move rfl) rfl ?_
  refine KV (R_len sl25 rfl) rfl ?_
  refine KV (R_cmp rfl rfl rfl) rfl ?_
  refine KV (R_move rfl) rfl ?_
  refine K_split ?_ ?_
  ·
    intro h8
    refine K_gno rfl rfl rfl rfl ?_
    refine K_gno rfl rfl rfl rfl ?_
    refine K_gno rfl rfl rfl rfl ?_
    refine KV (R_pickT rfl rfl) rfl ?_
    refine K_nil ?_
    refine Q_then ?_
    refine K_ifT rfl ?_
    refine K_seq ?_
    refine K_region ?_
    refine KV (R_assign rfl) rfl ?_
    refine K_nil ?_
    refine Q_then ?_
    refine K_ret ?_
    refine Q_then_ret ?_
    refine results_gen (rs := [.tmp 2]) (vs := [_]) rfl ⟨rfl, trivial⟩ ?_
    simp only [tupV, ranksErr]
    rw [if_pos (.inl (by omega))]
  ·
    intro h8
    refine K_gyes rfl rfl ?_
    refine KV (R_move rfl) rfl ?_
    refine K_gyes rfl rfl ?_
    refine KV (R_len sl25 rfl) rfl ?_
    refine K_gyes rfl rfl ?_
    refine KV (R_cmp rfl rfl rfl) rfl ?_
    refine KV (R_pickF rfl rfl) rfl ?_
    refine K_nil ?_
    refine Q_then ?_
    refine K_if rfl (fun h12 => ?_) (fun h12 => ?_)
    ·
      refine K_seq ?_
      refine K_region ?_
      refine KV (R_assign rfl) rfl ?_
      refine K_nil ?_
      refine Q_then ?_
      refine K_ret ?_
      refine Q_then_ret ?_
      refine results_gen (rs := [.tmp 2]) (vs := [_]) rfl ⟨rfl, trivial⟩ ?_
      simp only [tupV, ranksErr]
      rw [if_pos (.inr (by omega))]
    ·
      refine K_skip ?_
      refine Q_then ?_
      refine K_seq ?_
      refine K_region ?_
      refine KV (R_assign rfl) rfl ?_
      refine K_nil ?_
      refine Q_then ?_
      refine K_seq ?_
      refine K_seq ?_
      refine K_region ?_
      refine KV (R_assign rfl) rfl ?_
      refine K_nil ?_
      refine Q_then ?_
      refine K_block ?_
      refine K_loopD (G := Nat) [2, 3, 4, 13, 14, 15, 16, 17, 18, 19, 20, 21, 22, 23, 24, 25, 26, 27, 28, 29, 30, 31, 32, 33, 34, 35, 36, 37, 38] (fun g => [(4, .int .i64 (g : Int)), (3, .bool ((xs.take g).all fun x => decide (0 < x)))]) (fun hl g => hl) (fun g => H) (fun g => (g ≤ xs.length) ∧ (∀ j (h : j < xs.length), j < g → ¬ (xs[j] < 0 ∨ 2 < xs[j]))) (fun g => xs.length - g) 0 ⟨Nat.zero_le _, fun j _ h => by simp at h⟩ ⟨rfl, rfl, trivial⟩ (by simp only [args0, Nat.reduceAdd, del, memN, beqN, Nat.reduceBEq, cond_true, cond_false]; rfl) rfl rfl ?_
      rintro k ⟨hk, hno⟩
      try dsimp only at hk
      try dsimp only at hno
      dsimp only [List.set, List.cons_append, List.nil_append]
      refine K_seq ?_
      refine K_seq ?_
      refine K_region ?_
      refine KV (R_move rfl) rfl ?_
      refine KV (R_move rfl) rfl ?_
      refine KV (R_len sl25 rfl) rfl ?_
      refine KV (R_cmp rfl rfl rfl) rfl ?_
      refine K_nil ?_
      refine Q_then ?_
      refine K_if rfl (fun h16 => ?_) (fun h16 => ?_)
      ·
        have hk' : k < xs.length := by omega
        obtain ⟨tb, to_, rfl, hta⟩ := hv.get hk'
        refine K_skip ?_
        refine Q_then ?_
        refine K_seq ?_
        refine K_block ?_
        refine K_seq ?_
        refine K_seq ?_
        refine K_region ?_
        refine KV (R_move rfl) rfl ?_
        refine KV (R_move rfl) rfl ?_
        refine KV (R_indexN sl25 ty3 rfl rfl (by omega)) rfl ?_
        refine KV (R_loadH ty3 rfl (hta) rfl (fun _ => rfl) rfl) rfl ?_
        refine KV (R_cmp rfl rfl rfl) rfl ?_
        refine KV (R_move rfl) rfl ?_
        refine K_split ?_ ?_
        ·
          intro h24
          refine K_gno rfl rfl rfl rfl ?_
          refine K_gno rfl rfl rfl rfl ?_
          refine K_gno rfl rfl rfl rfl ?_
          refine K_gno rfl rfl rfl rfl ?_
          refine K_gno rfl rfl rfl rfl ?_
          refine KV (R_pickT rfl rfl) rfl ?_
          refine K_nil ?_
          refine Q_then ?_
          refine K_ifT rfl ?_
          refine K_seq ?_
          refine K_region ?_
          refine KV (R_assign rfl) rfl ?_
          refine K_nil ?_
          refine Q_then ?_
          refine K_ret ?_
          refine Q_then_ret ?_
          refine Q_block_ret ?_
          refine Q_then_ret ?_
          refine Q_then_ret ?_
          refine Q_block_ret ?_
          refine Q_then_ret ?_
          refine results_gen (rs := [.tmp 2]) (vs := [_]) rfl ⟨rfl, trivial⟩ ?_
          have hany : (xs.any fun x => decide (x < 0 ∨ 2 < x)) = true := List.any_eq_true.2 ⟨_, List.getElem_mem hk', by simp; omega⟩
          simp only [tupV, ranksErr]
          rw [if_neg (by omega), if_pos hany]
        ·
          intro h24
          refine K_gyes rfl rfl ?_
          refine KV (R_move rfl) rfl ?_
          refine K_gyes rfl rfl ?_
          refine KV (R_move rfl) rfl ?_
          refine K_gyes rfl rfl ?_
          refine KV (R_indexN sl25 ty3 rfl rfl (by omega)) rfl ?_
          refine K_gyes rfl rfl ?_
          refine KV (R_loadH ty3 rfl (hta) rfl (fun _ => rfl) rfl) rfl ?_
          refine K_gyes rfl rfl ?_
          refine KV (R_cmp rfl rfl rfl) rfl ?_
          refine KV (R_pickF rfl rfl) rfl ?_
          refine K_nil ?_
          refine Q_then ?_
          refine K_if rfl (fun h30 => ?_) (fun h30 => ?_)
          ·
            refine K_seq ?_
            refine K_region ?_
            refine KV (R_assign rfl) rfl ?_
            refine K_nil ?_
            refine Q_then ?_
            refine K_ret ?_
            refine Q_then_ret ?_
            refine Q_block_ret ?_
            refine Q_then_ret ?_
            refine Q_then_ret ?_
            refine Q_block_ret ?_
            refine Q_then_ret ?_
            refine results_gen (rs := [.tmp 2]) (vs := [_]) rfl ⟨rfl, trivial⟩ ?_
            have hany : (xs.any fun x => decide (x < 0 ∨ 2 < x)) = true := List.any_eq_true.2 ⟨_, List.getElem_mem hk', by simp; omega⟩
            simp only [tupV, ranksErr]
            rw [if_neg (by omega), if_pos hany]
          ·
            have hno2 : ∀ j (h : j < xs.length), j < k + 1 → ¬ (xs[j] < 0 ∨ 2 < xs[j]) := by
              intro j h hj
              by_cases e : j = k
              · subst e; omega
              · exact hno j h (by omega)
            refine K_skip ?_
            refine Q_then ?_
            refine K_region ?_
            refine KV (R_move rfl) rfl ?_
            refine KV (R_move rfl) rfl ?_
            refine K_splitB ?_ ?_
            ·
              intro h32
              refine K_gyes rfl rfl ?_
              refine KV (R_move rfl) rfl ?_
              refine K_gyes rfl rfl ?_
              refine KV (R_move rfl) rfl ?_
              refine K_gyes rfl rfl ?_
              refine KV (R_indexN sl25 ty3 rfl rfl (by omega)) rfl ?_
              refine K_gyes rfl rfl ?_
              refine KV (R_loadH ty3 rfl (hta) rfl (fun _ => rfl) rfl) rfl ?_
              refine K_gyes rfl rfl ?_
              refine KV (R_cmp rfl rfl rfl) rfl ?_
              refine KV (R_pickT rfl rfl) rfl ?_
              refine KV (R_assign rfl) rfl ?_
              refine K_nil ?_
              refine Q_block ?_
              refine Q_then ?_
              refine K_region ?_
              refine KV (R_move rfl) rfl ?_
              refine KV (R_add rfl rfl (by omega)) rfl ?_
              refine KV (R_assign rfl) rfl ?_
              refine K_nil ?_
              refine Q_nextD (k + 1) ⟨hk', hno2⟩ (by (try dsimp only); omega) ⟨rfl, congrArg (fun z => some (Value.bool z)) (by rw [all_succ hk', h32]; rfl), trivial⟩ rfl rfl rfl
            ·
              intro h32
              refine K_gno rfl rfl rfl rfl ?_
              refine K_gno rfl rfl rfl rfl ?_
              refine K_gno rfl rfl rfl rfl ?_
              refine K_gno rfl rfl rfl rfl ?_
              refine K_gno rfl rfl rfl rfl ?_
              refine KV (R_pickF rfl rfl) rfl ?_
              refine KV (R_assign rfl) rfl ?_
              refine K_nil ?_
              refine Q_block ?_
              refine Q_then ?_
              refine K_region ?_
              refine KV (R_move rfl) rfl ?_
              refine KV (R_add rfl rfl (by omega)) rfl ?_
              refine KV (R_assign rfl) rfl ?_
              refine K_nil ?_
              refine Q_nextD (k + 1) ⟨hk', hno2⟩ (by (try dsimp only); omega) ⟨rfl, congrArg (fun z => some (Value.bool z)) (by rw [all_succ hk', h32]; rfl), trivial⟩ rfl rfl rfl
      ·
        have hk' : k = xs.length := by omega
        subst hk'
        rw [List.take_length]
        have hany : (xs.any fun x => decide (x < 0 ∨ 2 < x)) = false := by
          rw [List.any_eq_false]
          intro x hx
          obtain ⟨j, hj, rfl⟩ := List.getElem_of_mem hx
          simpa using hno j hj hj
        refine K_exit ?_
        refine Q_then_exit ?_
        refine Q_then_exit ?_
        refine Q_block_exit ?_
        refine Q_then ?_
        refine K_seq ?_
        refine K_seq ?_
        refine K_region ?_
        refine KV (R_move rfl) rfl ?_
        refine K_nil ?_
        refine Q_then ?_
        refine K_ifB rfl (fun h39 => ?_) (fun h39 => ?_)
        ·
          refine K_seq ?_
          refine K_region ?_
          refine KV (R_assign rfl) rfl ?_
          refine K_nil ?_
          refine Q_then ?_
          refine K_ret ?_
          refine Q_then_ret ?_
          refine results_gen (rs := [.tmp 2]) (vs := [_]) rfl ⟨rfl, trivial⟩ ?_
          have h0 : ¬ (0 : Int) ∈ xs := by
            intro hm
            have := List.all_eq_true.1 h39 0 hm
            simp at this
          simp only [tupV, ranksErr]
          rw [if_neg (by omega), if_neg (by rw [hany]; simp), if_pos h0]
        ·
          refine K_skip ?_
          refine Q_then ?_
          refine K_seq ?_
          refine K_region ?_
          refine KV (R_assign rfl) rfl ?_
          refine K_nil ?_
          refine Q_then ?_
          refine K_ret ?_
          refine results_gen (rs := [.tmp 2]) (vs := [_]) rfl ⟨rfl, trivial⟩ ?_
          have h0 : (0 : Int) ∈ xs := by
            obtain ⟨x, hx, hx2⟩ := List.all_eq_false.1 h39
            obtain ⟨j, hj, e⟩ := List.getElem_of_mem hx
            have := hno j hj hj
            have h3 : ¬ 0 < x := by simpa using hx2
            have : x = 0 := by rw [e] at this; omega
            exact this ▸ hx
          simp only [tupV, ranksErr]
          rw [if_neg (by omega), if_neg (by rw [hany]; simp), if_neg (by simpa using h0)]
end Go.Proofs.X

namespace Go.Proofs.X
open Go Pal Go.Proofs
attribute [local irreducible] Pal.KO Pal.KC Pal.KQ Pal.KD
theorem fd54_0 : fldOk Tryz.prog T54 0 0 = true := by kernel_rfl
theorem c51 : callable Tryz.prog F51 = true := by kernel_rfl
theorem c52 : callable Tryz.prog F52 = true := by kernel_rfl
theorem c53 : callable Tryz.prog F53 = true := by kernel_rfl
theorem c54 : callable Tryz.prog F54 = true := by kernel_rfl
theorem eqa_spec (xs ys : List Int) (v w : Value) (H : View) (hv : SI H v xs) (hw : SI H w ys) (hl : xs.length ≤ 1099511627776) (_hl2 : ys.length ≤ 1099511627776) : Sat Tryz.prog F51 #[v, w] H (fun r _ => r = .bool (decide (xs = ys))) := by
  obtain ⟨a, cp, rfl⟩ := hv.shape
  obtain ⟨b, cq, rfl⟩ := hw.shape
  refine enterO (n := 26) (args := [.slice a xs.length cp, .slice b ys.length cq]) Tryz.func37 rfl rfl rfl fun w0 => ?_
  refine K_seq ?_
  refine K_region ?_
  refine KV (R_assign rfl) rfl ?_
  refine K_nil ?_
  refine Q_then ?_
  refine K_seq ?_
  refine K_seq ?_
  refine K_region ?_
  refine KV (R_move rfl) rfl ?_
  refine KV (R_len sl47 rfl) rfl ?_
  refine KV (R_move rfl) rfl ?_
  refine KV (R_len sl47 rfl) rfl ?_
  refine KV (R_cmp rfl rfl rfl) rfl ?_
  refine K_nil ?_
  refine Q_then ?_
  refine K_if rfl (fun h10 => ?_) (fun h10 => ?_)
  ·
    refine K_seq ?_
    refine K_region ?_
    refine KV (R_assign rfl) rfl ?_
    refine K_nil ?_
    refine Q_then ?_
    refine K_ret ?_
    refine Q_then_ret ?_
    refine results_gen (rs := [.tmp 4]) (vs := [_]) rfl ⟨rfl, trivial⟩ ?_
    refine congrArg Value.bool (Eq.symm ?_)
    simp only [decide_eq_false_iff_not]
    intro e; subst e; exact absurd rfl h10
  ·
    refine K_skip ?_
    refine Q_then ?_
    refine K_seq ?_
    refine K_seq ?_
    refine K_region ?_
    refine KV (R_move rfl) rfl ?_
    refine KV (R_len sl47 rfl) rfl ?_
    refine KV (R_move rfl) rfl ?_
    refine K_nil ?_
    refine Q_then ?_
    refine K_block ?_
    refine K_loopD (G := Nat) [4, 5, 13, 14, 15, 16, 17, 18, 19, 20, 21, 22, 23, 24, 25] (fun g => [(13, .int .i64 (g : Int))]) (fun hl g => hl) (fun g => H) (fun g => (g ≤ xs.length) ∧ (∀ j (h : j < xs.length) (h2 : j < ys.length), j < g → xs[j] = ys[j])) (fun g => xs.length - g) 0 ⟨Nat.zero_le _, fun j _ _ h => by simp at h⟩ ⟨rfl, trivial⟩ (by simp only [args0, Nat.reduceAdd, del, memN, beqN, Nat.reduceBEq, cond_true, cond_false]; rfl) rfl rfl ?_
    rintro k ⟨hk, hyes⟩
    try dsimp only at hk
    try dsimp only at hyes
    dsimp only [List.set, List.cons_append, List.nil_append]
    refine K_seq ?_
    refine K_region ?_
    refine KV (R_cmp rfl rfl rfl) rfl ?_
    refine K_nil ?_
    refine Q_then ?_
    refine K_seq ?_
    refine K_if rfl (fun h14 => ?_) (fun h14 => ?_)
    ·
      have hk' : k < xs.length := by omega
      have hk2 : k < ys.length := by omega
      obtain ⟨tb, to_, rfl, hta⟩ := hv.get hk'
      obtain ⟨tb2, to2, rfl, htb⟩ := hw.get hk2
      refine K_skip ?_
      refine Q_then ?_
      refine K_seq ?_
      refine K_block ?_
      refine K_seq ?_
      refine K_region ?_
      refine KV (R_move rfl) rfl ?_
      refine KV (R_assign rfl) rfl ?_
      refine K_nil ?_
      refine Q_then ?_
      refine K_seq ?_
      refine K_regionD (fin := false) (R := [0, 1, 2, 3, 4, 5, 6, 7, 8]) (by kernel_rfl) mixed (List.nil_sublist _) ?_
      refine D_val rfl rfl rfl (R_move rfl) ?_
      refine D_val rfl rfl rfl (R_move rfl) ?_
      refine D_val rfl rfl rfl (R_indexN sl47 ty3 rfl rfl (by omega)) ?_
      refine D_val rfl rfl rfl (R_loadH ty3 rfl (hta) rfl (fun _ => rfl) rfl) ?_
      refine D_val rfl rfl rfl (R_move rfl) ?_
      refine D_val rfl rfl rfl (R_move rfl) ?_
      refine D_val rfl rfl rfl (R_indexN sl47 ty3 rfl rfl (by omega)) ?_
      refine D_val rfl rfl rfl (R_loadH ty3 rfl (htb) rfl (fun _ => rfl) rfl) ?_
      refine D_val rfl rfl rfl (R_cmp rfl rfl rfl) ?_
      refine D_done ?_
      refine Q_then ?_
      refine K_if rfl (fun h24 => ?_) (fun h24 => ?_)
      ·
        refine K_seq ?_
        refine K_region ?_
        refine KV (R_assign rfl) rfl ?_
        refine K_nil ?_
        refine Q_then ?_
        refine K_ret ?_
        refine Q_block_ret ?_
        refine Q_then_ret ?_
        refine Q_then_ret ?_
        refine Q_block_ret ?_
        refine Q_then_ret ?_
        refine results_gen (rs := [.tmp 4]) (vs := [_]) rfl ⟨rfl, trivial⟩ ?_
        refine congrArg Value.bool (Eq.symm ?_)
        simp only [decide_eq_false_iff_not]
        intro e; subst e; exact h24 rfl
      ·
        have hyes2 : ∀ j (h : j < xs.length) (h2 : j < ys.length), j < k + 1 → xs[j] = ys[j] := by
          intro j h h2 hj
          by_cases e : j = k
          · subst e; exact Decidable.not_not.1 h24
          · exact hyes j h h2 (by omega)
        refine K_skip ?_
        refine Q_block ?_
        refine Q_then ?_
        refine K_region ?_
        refine KV (R_add rfl rfl (by omega)) rfl ?_
        refine KV (R_move rfl) rfl ?_
        refine K_nil ?_
        refine Q_nextD (k + 1) ⟨hk', hyes2⟩ (by (try dsimp only); omega) ⟨rfl, trivial⟩ rfl rfl rfl
    ·
      refine K_exit ?_
      refine Q_then_exit ?_
      refine Q_then_exit ?_
      refine Q_block_exit ?_
      refine Q_then ?_
      refine K_seq ?_
      refine K_region ?_
      refine KV (R_assign rfl) rfl ?_
      refine K_nil ?_
      refine Q_then ?_
      refine K_ret ?_
      refine results_gen (rs := [.tmp 4]) (vs := [_]) rfl ⟨rfl, trivial⟩ ?_
      refine congrArg Value.bool (Eq.symm ?_)
      simp only [decide_eq_true_eq]
      exact List.ext_getElem (by omega) fun j h h2 => hyes j h h2 (by omega)

theorem eqi_spec (xs ys : List Int) (v w : Value) (H : View) (hv : SI H v xs) (hw : SI H w ys) (hl : xs.length ≤ 1099511627776) (_hl2 : ys.length ≤ 1099511627776) : Sat Tryz.prog F54 #[v, w] H (fun r _ => r = .bool (decide (xs = ys))) := by
  obtain ⟨a, cp, rfl⟩ := hv.shape
  obtain ⟨b, cq, rfl⟩ := hw.shape
  refine enterO (n := 26) (args := [.slice a xs.length cp, .slice b ys.length cq]) Tryz.func40 rfl rfl rfl fun w0 => ?_
  refine K_seq ?_
  refine K_region ?_
  refine KV (R_assign rfl) rfl ?_
  refine K_nil ?_
  refine Q_then ?_
  refine K_seq ?_
  refine K_seq ?_
  refine K_region ?_
  refine KV (R_move rfl) rfl ?_
  refine KV (R_len sl25 rfl) rfl ?_
  refine KV (R_move rfl) rfl ?_
  refine KV (R_len sl25 rfl) rfl ?_
  refine KV (R_cmp rfl rfl rfl) rfl ?_
  refine K_nil ?_
  refine Q_then ?_
  refine K_if rfl (fun h10 => ?_) (fun h10 => ?_)
  ·
    refine K_seq ?_
    refine K_region ?_
    refine KV (R_assign rfl) rfl ?_
    refine K_nil ?_
    refine Q_then ?_
    refine K_ret ?_
    refine Q_then_ret ?_
    refine results_gen (rs := [.tmp 4]) (vs := [_]) rfl ⟨rfl, trivial⟩ ?_
    refine congrArg Value.bool (Eq.symm ?_)
    simp only [decide_eq_false_iff_not]
    intro e; subst e; exact absurd rfl h10
  ·
    refine K_skip ?_
    refine Q_then ?_
    refine K_seq ?_
    refine K_seq ?_
    refine K_region ?_
    refine KV (R_move rfl) rfl ?_
    refine KV (R_len sl25 rfl) rfl ?_
    refine KV (R_move rfl) rfl ?_
    refine K_nil ?_
    refine Q_then ?_
    refine K_block ?_
    refine K_loopD (G := Nat) [4, 5, 13, 14, 15, 16, 17, 18, 19, 20, 21, 22, 23, 24, 25] (fun g => [(13, .int .i64 (g : Int))]) (fun hl g => hl) (fun g => H) (fun g => (g ≤ xs.length) ∧ (∀ j (h : j < xs.length) (h2 : j < ys.length), j < g → xs[j] = ys[j])) (fun g => xs.length - g) 0 ⟨Nat.zero_le _, fun j _ _ h => by simp at h⟩ ⟨rfl, trivial⟩ (by simp only [args0, Nat.reduceAdd, del, memN, beqN, Nat.reduceBEq, cond_true, cond_false]; rfl) rfl rfl ?_
    rintro k ⟨hk, hyes⟩
    try dsimp only at hk
    try dsimp only at hyes
    dsimp only [List.set, List.cons_append, List.nil_append]
    refine K_seq ?_
    refine K_region ?_
    refine KV (R_cmp rfl rfl rfl) rfl ?_
    refine K_nil ?_
    refine Q_then ?_
    refine K_seq ?_
    refine K_if rfl (fun h14 => ?_) (fun h14 => ?_)
    ·
      have hk' : k < xs.length := by omega
      have hk2 : k < ys.length := by omega
      obtain ⟨tb, to_, rfl, hta⟩ := hv.get hk'
      obtain ⟨tb2, to2, rfl, htb⟩ := hw.get hk2
      refine K_skip ?_
      refine Q_then ?_
      refine K_seq ?_
      refine K_block ?_
      refine K_seq ?_
      refine K_region ?_
      refine KV (R_move rfl) rfl ?_
      refine KV (R_assign rfl) rfl ?_
      refine K_nil ?_
      refine Q_then ?_
      refine K_seq ?_
      refine K_regionD (fin := false) (R := [0, 1, 2, 3, 4, 5, 6, 7, 8]) (by kernel_rfl) mixed (List.nil_sublist _) ?_
      refine D_val rfl rfl rfl (R_move rfl) ?_
      refine D_val rfl rfl rfl (R_move rfl) ?_
      refine D_val rfl rfl rfl (R_indexN sl25 ty3 rfl rfl (by omega)) ?_
      refine D_val rfl rfl rfl (R_loadH ty3 rfl (hta) rfl (fun _ => rfl) rfl) ?_
      refine D_val rfl rfl rfl (R_move rfl) ?_
      refine D_val rfl rfl rfl (R_move rfl) ?_
      refine D_val rfl rfl rfl (R_indexN sl25 ty3 rfl rfl (by omega)) ?_
      refine D_val rfl rfl rfl (R_loadH ty3 rfl (htb) rfl (fun _ => rfl) rfl) ?_
      refine D_val rfl rfl rfl (R_cmp rfl rfl rfl) ?_
      refine D_done ?_
      refine Q_then ?_
      refine K_if rfl (fun h24 => ?_) (fun h24 => ?_)
      ·
        refine K_seq ?_
        refine K_region ?_
        refine KV (R_assign rfl) rfl ?_
        refine K_nil ?_
        refine Q_then ?_
        refine K_ret ?_
        refine Q_block_ret ?_
        refine Q_then_ret ?_
        refine Q_then_ret ?_
        refine Q_block_ret ?_
        refine Q_then_ret ?_
        refine results_gen (rs := [.tmp 4]) (vs := [_]) rfl ⟨rfl, trivial⟩ ?_
        refine congrArg Value.bool (Eq.symm ?_)
        simp only [decide_eq_false_iff_not]
        intro e; subst e; exact h24 rfl
      ·
        have hyes2 : ∀ j (h : j < xs.length) (h2 : j < ys.length), j < k + 1 → xs[j] = ys[j] := by
          intro j h h2 hj
          by_cases e : j = k
          · subst e; exact Decidable.not_not.1 h24
          · exact hyes j h h2 (by omega)
        refine K_skip ?_
        refine Q_block ?_
        refine Q_then ?_
        refine K_region ?_
        refine KV (R_add rfl rfl (by omega)) rfl ?_
        refine KV (R_move rfl) rfl ?_
        refine K_nil ?_
        refine Q_nextD (k + 1) ⟨hk', hyes2⟩ (by (try dsimp only); omega) ⟨rfl, trivial⟩ rfl rfl rfl
    ·
      refine K_exit ?_
      refine Q_then_exit ?_
      refine Q_then_exit ?_
      refine Q_block_exit ?_
      refine Q_then ?_
      refine K_seq ?_
      refine K_region ?_
      refine KV (R_assign rfl) rfl ?_
      refine K_nil ?_
      refine Q_then ?_
      refine K_ret ?_
      refine results_gen (rs := [.tmp 4]) (vs := [_]) rfl ⟨rfl, trivial⟩ ?_
      refine congrArg Value.bool (Eq.symm ?_)
      simp only [decide_eq_true_eq]
      exact List.ext_getElem (by omega) fun j h h2 => hyes j h h2 (by omega)

theorem eqb_spec (xs ys : List Bool) (v w : Value) (H : View) (hv : SB H v xs) (hw : SB H w ys) (hl : xs.length ≤ 1099511627776) (_hl2 : ys.length ≤ 1099511627776) : Sat Tryz.prog F52 #[v, w] H (fun r _ => r = .bool (decide (xs = ys))) := by
  obtain ⟨a, cp, rfl⟩ := hv.shape
  obtain ⟨b, cq, rfl⟩ := hw.shape
  refine enterO (n := 26) (args := [.slice a xs.length cp, .slice b ys.length cq]) Tryz.func38 rfl rfl rfl fun w0 => ?_
  refine K_seq ?_
  refine K_region ?_
  refine KV (R_assign rfl) rfl ?_
  refine K_nil ?_
  refine Q_then ?_
  refine K_seq ?_
  refine K_seq ?_
  refine K_region ?_
  refine KV (R_move rfl) rfl ?_
  refine KV (R_len sl52 rfl) rfl ?_
  refine KV (R_move rfl) rfl ?_
  refine KV (R_len sl52 rfl) rfl ?_
  refine KV (R_cmp rfl rfl rfl) rfl ?_
  refine K_nil ?_
  refine Q_then ?_
  refine K_if rfl (fun h10 => ?_) (fun h10 => ?_)
  ·
    refine K_seq ?_
    refine K_region ?_
    refine KV (R_assign rfl) rfl ?_
    refine K_nil ?_
    refine Q_then ?_
    refine K_ret ?_
    refine Q_then_ret ?_
    refine results_gen (rs := [.tmp 4]) (vs := [_]) rfl ⟨rfl, trivial⟩ ?_
    refine congrArg Value.bool (Eq.symm ?_)
    simp only [decide_eq_false_iff_not]
    intro e; subst e; exact absurd rfl h10
  ·
    refine K_skip ?_
    refine Q_then ?_
    refine K_seq ?_
    refine K_seq ?_
    refine K_region ?_
    refine KV (R_move rfl) rfl ?_
    refine KV (R_len sl52 rfl) rfl ?_
    refine KV (R_move rfl) rfl ?_
    refine K_nil ?_
    refine Q_then ?_
    refine K_block ?_
    refine K_loopD (G := Nat) [4, 5, 13, 14, 15, 16, 17, 18, 19, 20, 21, 22, 23, 24, 25] (fun g => [(13, .int .i64 (g : Int))]) (fun hl g => hl) (fun g => H) (fun g => (g ≤ xs.length) ∧ (∀ j (h : j < xs.length) (h2 : j < ys.length), j < g → xs[j] = ys[j])) (fun g => xs.length - g) 0 ⟨Nat.zero_le _, fun j _ _ h => by simp at h⟩ ⟨rfl, trivial⟩ (by simp only [args0, Nat.reduceAdd, del, memN, beqN, Nat.reduceBEq, cond_true, cond_false]; rfl) rfl rfl ?_
    rintro k ⟨hk, hyes⟩
    try dsimp only at hk
    try dsimp only at hyes
    dsimp only [List.set, List.cons_append, List.nil_append]
    refine K_seq ?_
    refine K_region ?_
    refine KV (R_cmp rfl rfl rfl) rfl ?_
    refine K_nil ?_
    refine Q_then ?_
    refine K_seq ?_
    refine K_if rfl (fun h14 => ?_) (fun h14 => ?_)
    ·
      have hk' : k < xs.length := by omega
      have hk2 : k < ys.length := by omega
      obtain ⟨tb, to_, rfl, hta⟩ := hv.get hk'
      obtain ⟨tb2, to2, rfl, htb⟩ := hw.get hk2
      refine K_skip ?_
      refine Q_then ?_
      refine K_seq ?_
      refine K_block ?_
      refine K_seq ?_
      refine K_region ?_
      refine KV (R_move rfl) rfl ?_
      refine KV (R_assign rfl) rfl ?_
      refine K_nil ?_
      refine Q_then ?_
      refine K_seq ?_
      refine K_regionD (fin := false) (R := [0, 1, 2, 3, 4, 5, 6, 7, 8]) (by kernel_rfl) mixed (List.nil_sublist _) ?_
      refine D_val rfl rfl rfl (R_move rfl) ?_
      refine D_val rfl rfl rfl (R_move rfl) ?_
      refine D_val rfl rfl rfl (R_indexN sl52 ty4 rfl rfl (by omega)) ?_
      refine D_val rfl rfl rfl (R_loadH ty4 rfl (hta) rfl (fun _ => rfl) rfl) ?_
      refine D_val rfl rfl rfl (R_move rfl) ?_
      refine D_val rfl rfl rfl (R_move rfl) ?_
      refine D_val rfl rfl rfl (R_indexN sl52 ty4 rfl rfl (by omega)) ?_
      refine D_val rfl rfl rfl (R_loadH ty4 rfl (htb) rfl (fun _ => rfl) rfl) ?_
      refine D_val rfl rfl rfl (R_boolNe (by kernel_rfl) rfl rfl) ?_
      refine D_done ?_
      refine Q_then ?_
      refine K_ifB rfl (fun h24 => ?_) (fun h24 => ?_)
      ·
        refine K_seq ?_
        refine K_region ?_
        refine KV (R_assign rfl) rfl ?_
        refine K_nil ?_
        refine Q_then ?_
        refine K_ret ?_
        refine Q_block_ret ?_
        refine Q_then_ret ?_
        refine Q_then_ret ?_
        refine Q_block_ret ?_
        refine Q_then_ret ?_
        refine results_gen (rs := [.tmp 4]) (vs := [_]) rfl ⟨rfl, trivial⟩ ?_
        refine congrArg Value.bool (Eq.symm ?_)
        simp only [decide_eq_false_iff_not]
        intro e; subst e; revert h24; cases xs[k] <;> simp
      ·
        have hyes2 : ∀ j (h : j < xs.length) (h2 : j < ys.length), j < k + 1 → xs[j] = ys[j] := by
          intro j h h2 hj
          by_cases e : j = k
          · subst e; revert h24; cases xs[j] <;> cases ys[j] <;> simp
          · exact hyes j h h2 (by omega)
        refine K_skip ?_
        refine Q_block ?_
        refine Q_then ?_
        refine K_region ?_
        refine KV (R_add rfl rfl (by omega)) rfl ?_
        refine KV (R_move rfl) rfl ?_
        refine K_nil ?_
        refine Q_nextD (k + 1) ⟨hk', hyes2⟩ (by (try dsimp only); omega) ⟨rfl, trivial⟩ rfl rfl rfl
    ·
      refine K_exit ?_
      refine Q_then_exit ?_
      refine Q_then_exit ?_
      refine Q_block_exit ?_
      refine Q_then ?_
      refine K_seq ?_
      refine K_region ?_
      refine KV (R_assign rfl) rfl ?_
      refine K_nil ?_
      refine Q_then ?_
      refine K_ret ?_
      refine results_gen (rs := [.tmp 4]) (vs := [_]) rfl ⟨rfl, trivial⟩ ?_
      refine congrArg Value.bool (Eq.symm ?_)
      simp only [decide_eq_true_eq]
      exact List.ext_getElem (by omega) fun j h h2 => hyes j h h2 (by omega)

theorem eqf_spec (xs ys : List (List Int)) (v w : Value) (H : View) (hv : SSI H v xs) (hw : SSI H w ys) (hl : xs.length ≤ 1099511627776) (_hl2 : ys.length ≤ 1099511627776) (hi : ∀ x ∈ xs, x.length ≤ 1099511627776) (hi2 : ∀ x ∈ ys, x.length ≤ 1099511627776) :
    Sat Tryz.prog F53 #[v, w, .func (.func F54) #[] #[]] H (fun r _ => r = .bool (decide (xs = ys))) := by
  obtain ⟨a, cp, rfl⟩ := hv.shape
  obtain ⟨b, cq, rfl⟩ := hw.shape
  refine enterO (n := 32) (args := [.slice a xs.length cp, .slice b ys.length cq, .func (.func F54) #[] #[]]) Tryz.func39 rfl rfl rfl fun w0 => ?_
  refine K_seq ?_
  refine K_region ?_
  refine KV (R_assign rfl) rfl ?_
  refine K_nil ?_
  refine Q_then ?_
  refine K_seq ?_
  refine K_seq ?_
  refine K_region ?_
  refine KV (R_move rfl) rfl ?_
  refine KV (R_len sl44 rfl) rfl ?_
  refine KV (R_move rfl) rfl ?_
  refine KV (R_len sl44 rfl) rfl ?_
  refine KV (R_cmp rfl rfl rfl) rfl ?_
  refine K_nil ?_
  refine Q_then ?_
  refine K_if rfl (fun h14 => ?_) (fun h14 => ?_)
  ·
    refine K_seq ?_
    refine K_region ?_
    refine KV (R_assign rfl) rfl ?_
    refine K_nil ?_
    refine Q_then ?_
    refine K_ret ?_
    refine Q_then_ret ?_
    refine results_gen (rs := [.tmp 6]) (vs := [_]) rfl ⟨rfl, trivial⟩ ?_
    refine congrArg Value.bool (Eq.symm ?_)
    simp only [decide_eq_false_iff_not]
    intro e; subst e; exact absurd rfl h14
  ·
    refine K_skip ?_
    refine Q_then ?_
    refine K_seq ?_
    refine K_seq ?_
    refine K_region ?_
    refine KV (R_move rfl) rfl ?_
    refine KV (R_len sl44 rfl) rfl ?_
    refine KV (R_move rfl) rfl ?_
    refine K_nil ?_
    refine Q_then ?_
    refine K_block ?_
    refine K_loopD (G := Nat × View) [6, 7, 8, 9, 17, 18, 19, 20, 21, 22, 23, 24, 25, 26, 27, 28, 29, 30, 31] (fun g => [(17, .int .i64 (g.1 : Int))]) (fun hl g => hl) (fun g => g.2) (fun g => (g.1 ≤ xs.length) ∧ (VLe H g.2) ∧ (∀ j (h : j < xs.length) (h2 : j < ys.length), j < g.1 → xs[j] = ys[j])) (fun g => xs.length - g.1) (0, H) ⟨Nat.zero_le _, VLe.refl _, fun j _ _ h => by simp at h⟩ ⟨rfl, trivial⟩ (by simp only [args0, Nat.reduceAdd, del, memN, beqN, Nat.reduceBEq, cond_true, cond_false]; rfl) rfl rfl ?_
    rintro ⟨k, V⟩ ⟨hk, hV, hyes⟩
    dsimp only at hk hV hyes
    dsimp only [List.set, List.cons_append, List.nil_append]
    refine K_seq ?_
    refine K_region ?_
    refine KV (R_cmp rfl rfl rfl) rfl ?_
    refine K_nil ?_
    refine Q_then ?_
    refine K_seq ?_
    refine K_if rfl (fun h18 => ?_) (fun h18 => ?_)
    ·
      have hk' : k < xs.length := by omega
      have hk2 : k < ys.length := by omega
      obtain ⟨tb, to_, ea, ecp, rfl, hta, hes1⟩ := (hv.mono hV).get hk'
      obtain ⟨tb2, to2, ea2, ecp2, rfl, htb, hes2⟩ := (hw.mono hV).get hk2
      refine K_skip ?_
      refine Q_then ?_
      refine K_seq ?_
      refine K_block ?_
      refine K_seq ?_
      refine K_region ?_
      refine KV (R_move rfl) rfl ?_
      refine KV (R_indexN sl44 ty25 rfl rfl (by omega)) rfl ?_
      refine KV (R_loadH ty25 rfl (hta) rfl (fun _ => rfl) rfl) rfl ?_
      refine KV (R_assign rfl) rfl ?_
      refine KV (R_assign rfl) rfl ?_
      refine K_nil ?_
      refine Q_then ?_
      refine K_seq ?_
      refine K_region ?_
      refine KV (R_move rfl) rfl ?_
      refine KV (R_move rfl) rfl ?_
      refine KV (R_indexN sl44 ty25 rfl rfl (by omega)) rfl ?_
      refine KV (R_loadH ty25 rfl (htb) rfl (fun _ => rfl) rfl) rfl ?_
      refine KV (R_assign rfl) rfl ?_
      refine K_nil ?_
      refine Q_then ?_
      refine K_seq ?_
      refine K_region ?_
      refine KV (R_move rfl) rfl ?_
      refine KV (R_move rfl) rfl ?_
      refine KV (R_move rfl) rfl ?_
      refine K_callO (first := []) [] [] (List.Perm.refl _) c54 rfl rfl rfl (eqi_spec xs[k] ys[k] _ _ V hes1 hes2 (hi _ (List.getElem_mem hk')) (hi2 _ (List.getElem_mem hk2))) ?_
      rintro _ V1 q hle rfl
      refine KO_own [] (List.nil_sublist _) ?_
      refine KV (R_notP rfl) rfl ?_
      refine K_nil ?_
      refine Q_then ?_
      refine K_if rfl (fun h30 => ?_) (fun h30 => ?_)
      ·
        refine K_seq ?_
        refine K_region ?_
        refine KV (R_assign rfl) rfl ?_
        refine K_nil ?_
        refine Q_then ?_
        refine K_ret ?_
        refine Q_block_ret ?_
        refine Q_then_ret ?_
        refine Q_then_ret ?_
        refine Q_block_ret ?_
        refine Q_then_ret ?_
        refine results_gen (rs := [.tmp 6]) (vs := [_]) rfl ⟨rfl, trivial⟩ ?_
        refine congrArg Value.bool (Eq.symm ?_)
        simp only [decide_eq_false_iff_not]
        intro e; subst e; exact h30 rfl
      ·
        have hyes2 : ∀ j (h : j < xs.length) (h2 : j < ys.length), j < k + 1 → xs[j] = ys[j] := by
          intro j h h2 hj
          by_cases e : j = k
          · subst e; exact Decidable.not_not.1 h30
          · exact hyes j h h2 (by omega)
        refine K_skip ?_
        refine Q_block ?_
        refine Q_then ?_
        refine K_region ?_
        refine KV (R_add rfl rfl (by omega)) rfl ?_
        refine KV (R_move rfl) rfl ?_
        refine K_nil ?_
        refine Q_nextD (k + 1, V1) ⟨hk', hV.trans hle, hyes2⟩ (by (try dsimp only); omega) ⟨rfl, trivial⟩ rfl rfl rfl
    ·
      refine K_exit ?_
      refine Q_then_exit ?_
      refine Q_then_exit ?_
      refine Q_block_exit ?_
      refine Q_then ?_
      refine K_seq ?_
      refine K_region ?_
      refine KV (R_assign rfl) rfl ?_
      refine K_nil ?_
      refine Q_then ?_
      refine K_ret ?_
      refine results_gen (rs := [.tmp 6]) (vs := [_]) rfl ⟨rfl, trivial⟩ ?_
      refine congrArg Value.bool (Eq.symm ?_)
      simp only [decide_eq_true_eq]
      exact List.ext_getElem (by omega) fun j h h2 => hyes j h h2 (by omega)

theorem dteq_spec (d e : Dt) (v1 v2 v3 w1 w2 w3 : Value) (H : View) (hd : RepDt H d v1 v2 v3) (he : RepDt H e w1 w2 w3) (hb : d.ranks.length ≤ 1099511627776 ∧ d.acc.length ≤ 1099511627776 ∧ d.to.length ≤ 1099511627776 ∧ ∀ x ∈ d.to, x.length ≤ 1099511627776)
    (hb2 : e.ranks.length ≤ 1099511627776 ∧ e.acc.length ≤ 1099511627776 ∧ e.to.length ≤ 1099511627776 ∧ ∀ x ∈ e.to, x.length ≤ 1099511627776) : Sat Tryz.prog F19 #[.agg #[v1, v2, v3], .agg #[w1, w2, w3]] H (fun r _ => r = .bool (decide (d.ranks = e.ranks ∧ d.acc = e.acc ∧ d.to = e.to))) := by
  obtain ⟨ua1, uc1x, rfl⟩ := hd.r.shape
  obtain ⟨ua2, uc2x, rfl⟩ := hd.a.shape
  obtain ⟨ua3, uc3x, rfl⟩ := hd.t.shape
  obtain ⟨wa1, wc1x, rfl⟩ := he.r.shape
  obtain ⟨wa2, wc2x, rfl⟩ := he.a.shape
  obtain ⟨wa3, wc3x, rfl⟩ := he.t.shape
  refine enterO (n := 24) (args := [.agg #[.slice ua1 d.ranks.length uc1x, .slice ua2 d.acc.length uc2x, .slice ua3 d.to.length uc3x], .agg #[.slice wa1 e.ranks.length wc1x, .slice wa2 e.acc.length wc2x, .slice wa3 e.to.length wc3x]]) Tryz.func13 rfl rfl rfl fun w0 => ?_
  refine K_seq ?_
  refine K_region ?_
  refine KA (A_box rfl) rfl fun b2 => ?_
  refine KA (A_box rfl) rfl fun b3 => ?_
  refine KV (R_assign rfl) rfl ?_
  refine K_nil ?_
  refine Q_then ?_
  refine K_seq ?_
  refine K_region ?_
  refine KV (R_fieldAddr 0 fd54_0 rfl) rfl ?_
  refine KV (R_loadO ty47 1 rfl rfl rfl rfl (fun _ => rfl) rfl) rfl ?_
  refine KV (R_fieldAddr 0 fd54_0 rfl) rfl ?_
  refine KV (R_loadO ty47 0 rfl rfl rfl rfl (fun _ => rfl) rfl) rfl ?_
  refine K_call c51 rfl rfl (eqa_spec d.ranks e.ranks _ _ H hd.r he.r hb.1 hb2.1) ?_
  rintro _ V1 hle1 rfl
  refine KV (R_move rfl) rfl ?_
  refine K_split ?_ ?_
  ·
    intro h10
    refine K_gyes rfl rfl ?_
    refine KV (R_fieldAddr 1 fd54_1 rfl) rfl ?_
    refine K_gyes rfl rfl ?_
    refine KV (R_loadO ty52 1 rfl rfl rfl rfl (fun _ => rfl) rfl) rfl ?_
    refine K_gyes rfl rfl ?_
    refine KV (R_fieldAddr 1 fd54_1 rfl) rfl ?_
    refine K_gyes rfl rfl ?_
    refine KV (R_loadO ty52 0 rfl rfl rfl rfl (fun _ => rfl) rfl) rfl ?_
    refine K_gyes rfl rfl ?_
    refine K_call c52 rfl rfl (eqb_spec d.acc e.acc _ _ V1 (SB.mono hd.a hle1) (SB.mono he.a hle1) hb.2.1 hb2.2.1) ?_
    rintro _ V2 hle2 rfl
    refine KV (R_pickT rfl rfl) rfl ?_
    refine KV (R_move rfl) rfl ?_
    refine K_split ?_ ?_
    ·
      intro h17
      refine K_gyes rfl rfl ?_
      refine KV (R_fieldAddr 2 fd54_2 rfl) rfl ?_
      refine K_gyes rfl rfl ?_
      refine KV (R_loadO ty44 1 rfl rfl rfl rfl (fun _ => rfl) rfl) rfl ?_
      refine K_gyes rfl rfl ?_
      refine KV (R_fieldAddr 2 fd54_2 rfl) rfl ?_
      refine K_gyes rfl rfl ?_
      refine KV (R_loadO ty44 0 rfl rfl rfl rfl (fun _ => rfl) rfl) rfl ?_
      refine K_gyes rfl rfl ?_
      refine K_call c53 rfl rfl (eqf_spec d.to e.to _ _ V2 (hd.t.mono (hle1.trans hle2)) (he.t.mono (hle1.trans hle2)) hb.2.2.1 hb2.2.2.1 hb.2.2.2 hb2.2.2.2) ?_
      rintro _ V3 hle3 rfl
      refine KV (R_pickT rfl rfl) rfl ?_
      refine KV (R_assign rfl) rfl ?_
      refine K_nil ?_
      refine Q_then ?_
      refine K_ret ?_
      refine results_gen (rs := [.tmp 4]) (vs := [_]) rfl ⟨rfl, trivial⟩ ?_
      refine congrArg Value.bool ?_
      simp_all
    ·
      intro h17
      refine K_gno rfl rfl rfl rfl ?_
      refine K_gno rfl rfl rfl rfl ?_
      refine K_gno rfl rfl rfl rfl ?_
      refine K_gno rfl rfl rfl rfl ?_
      refine K_gno rfl rfl rfl rfl ?_
      refine KV (R_pickF rfl rfl) rfl ?_
      refine KV (R_assign rfl) rfl ?_
      refine K_nil ?_
      refine Q_then ?_
      refine K_ret ?_
      refine results_gen (rs := [.tmp 4]) (vs := [_]) rfl ⟨rfl, trivial⟩ ?_
      refine congrArg Value.bool ?_
      simp_all
  ·
    intro h10
    refine K_gno rfl rfl rfl rfl ?_
    refine K_gno rfl rfl rfl rfl ?_
    refine K_gno rfl rfl rfl rfl ?_
    refine K_gno rfl rfl rfl rfl ?_
    refine K_gno rfl rfl rfl rfl ?_
    refine KV (R_pickF rfl rfl) rfl ?_
    refine KV (R_move rfl) rfl ?_
    refine K_gno rfl rfl rfl rfl ?_
    refine K_gno rfl rfl rfl rfl ?_
    refine K_gno rfl rfl rfl rfl ?_
    refine K_gno rfl rfl rfl rfl ?_
    refine K_gno rfl rfl rfl rfl ?_
    refine KV (R_pickF rfl rfl) rfl ?_
    refine KV (R_assign rfl) rfl ?_
    refine K_nil ?_
    refine Q_then ?_
    refine K_ret ?_
    refine results_gen (rs := [.tmp 4]) (vs := [_]) rfl ⟨rfl, trivial⟩ ?_
    refine congrArg Value.bool ?_
    simp_all
end Go.Proofs.X

namespace Go.Proofs.X
open Go Pal Go.Proofs
attribute [local irreducible] Pal.KO Pal.KC Pal.KQ Pal.KD
end Go.Proofs.X

namespace Go.Proofs.X
open Go Pal Go.Proofs
attribute [local irreducible] Pal.KO Pal.KC Pal.KQ Pal.KD
theorem fd63_0 : fldOk Tryz.prog T63 0 0 = true := by kernel_rfl
theorem fd63_1 : fldOk Tryz.prog T63 1 1 = true := by kernel_rfl
theorem fd63_2 : fldOk Tryz.prog T63 2 2 = true := by kernel_rfl
theorem c85 : callable Tryz.prog F85 = true := by kernel_rfl
theorem c87 : callable Tryz.prog F87 = true := by kernel_rfl
theorem c88 : callable Tryz.prog F88 = true := by kernel_rfl
theorem small_spec (d : Dt) (v1 v2 v3 : Value) (H : View) (hd : RepDt H d v1 v2 v3) (hb : d.ranks.length ≤ 1048576 ∧ d.acc.length ≤ 1048576 ∧ d.to.length ≤ 1048576 ∧ ∀ x ∈ d.to, x.length ≤ 1048576) : Sat Tryz.prog F26 #[.agg #[v1, v2, v3]] H (fun r _ => ∃ b, r = .bool b ∧ (b = true → d.ranks.length ≤ 8 ∧ d.acc.length ≤ 5 ∧ d.to.length ≤ 8 ∧ ∀ x ∈ d.to, x.length ≤ 40)) := by
  obtain ⟨hb1, hb2, hb3, hb4⟩ := hb
  obtain ⟨ua1, uc1x, rfl⟩ := hd.r.shape
  obtain ⟨ua2, uc2x, rfl⟩ := hd.a.shape
  obtain ⟨ua3, uc3x, rfl⟩ := hd.t.shape
  refine enterO (n := 34) (args := [.agg #[.slice ua1 d.ranks.length uc1x, .slice ua2 d.acc.length uc2x, .slice ua3 d.to.length uc3x]]) Tryz.func6 rfl rfl rfl fun w0 => ?_
  refine K_seq ?_
  refine K_region ?_
  refine KA (A_box rfl) rfl fun b1 => ?_
  refine KV (R_assign rfl) rfl ?_
  refine K_nil ?_
  refine Q_then ?_
  refine K_seq ?_
  refine K_seq ?_
  refine K_region ?_
  refine KV (R_fieldAddr 0 fd63_0 rfl) rfl ?_
  refine KV (R_loadO ty25 0 rfl rfl rfl rfl (fun _ => rfl) rfl) rfl ?_
  refine KV (R_len sl25 rfl) rfl ?_
  refine KV (R_cmp rfl rfl rfl) rfl ?_
  refine KV (R_move rfl) rfl ?_
  refine K_split ?_ ?_
  ·
    intro h8
    refine K_gno rfl rfl rfl rfl ?_
    refine K_gno rfl rfl rfl rfl ?_
    refine K_gno rfl rfl rfl rfl ?_
    refine K_gno rfl rfl rfl rfl ?_
    refine KV (R_pickT rfl rfl) rfl ?_
    refine KV (R_move rfl) rfl ?_
    refine K_gno rfl rfl rfl rfl ?_
    refine K_gno rfl rfl rfl rfl ?_
    refine K_gno rfl rfl rfl rfl ?_
    refine K_gno rfl rfl rfl rfl ?_
    refine KV (R_pickT rfl rfl) rfl ?_
    refine K_nil ?_
    refine Q_then ?_
    refine K_ifT rfl ?_
    refine K_seq ?_
    refine K_region ?_
    refine KV (R_assign rfl) rfl ?_
    refine K_nil ?_
    refine Q_then ?_
    refine K_ret ?_
    refine Q_then_ret ?_
    refine results_gen (rs := [.tmp 2]) (vs := [_]) rfl ⟨rfl, trivial⟩ ?_
    first | exact ⟨false, rfl, fun h => by cases h⟩ | (refine ⟨true, rfl, fun _ => ⟨by omega, by omega, by omega, fun x hx => ?_⟩⟩; obtain ⟨j, hj, rfl⟩ := List.getElem_of_mem hx; exact hall j hj (by omega))
  ·
    intro h8
    refine K_gyes rfl rfl ?_
    refine KV (R_fieldAddr 1 fd63_1 rfl) rfl ?_
    refine K_gyes rfl rfl ?_
    refine KV (R_loadO ty52 0 rfl rfl rfl rfl (fun _ => rfl) rfl) rfl ?_
    refine K_gyes rfl rfl ?_
    refine KV (R_len sl52 rfl) rfl ?_
    refine K_gyes rfl rfl ?_
    refine KV (R_cmp rfl rfl rfl) rfl ?_
    refine KV (R_pickF rfl rfl) rfl ?_
    refine KV (R_move rfl) rfl ?_
    refine K_split ?_ ?_
    ·
      intro h14
      refine K_gno rfl rfl rfl rfl ?_
      refine K_gno rfl rfl rfl rfl ?_
      refine K_gno rfl rfl rfl rfl ?_
      refine K_gno rfl rfl rfl rfl ?_
      refine KV (R_pickT rfl rfl) rfl ?_
      refine K_nil ?_
      refine Q_then ?_
      refine K_ifT rfl ?_
      refine K_seq ?_
      refine K_region ?_
      refine KV (R_assign rfl) rfl ?_
      refine K_nil ?_
      refine Q_then ?_
      refine K_ret ?_
      refine Q_then_ret ?_
      refine results_gen (rs := [.tmp 2]) (vs := [_]) rfl ⟨rfl, trivial⟩ ?_
      first | exact ⟨false, rfl, fun h => by cases h⟩ | (refine ⟨true, rfl, fun _ => ⟨by omega, by omega, by omega, fun x hx => ?_⟩⟩; obtain ⟨j, hj, rfl⟩ := List.getElem_of_mem hx; exact hall j hj (by omega))
    ·
      intro h14
      refine K_gyes rfl rfl ?_
      refine KV (R_fieldAddr 2 fd63_2 rfl) rfl ?_
      refine K_gyes rfl rfl ?_
      refine KV (R_loadO ty44 0 rfl rfl rfl rfl (fun _ => rfl) rfl) rfl ?_
      refine K_gyes rfl rfl ?_
      refine KV (R_len sl44 rfl) rfl ?_
      refine K_gyes rfl rfl ?_
      refine KV (R_cmp rfl rfl rfl) rfl ?_
      refine KV (R_pickF rfl rfl) rfl ?_
      refine K_nil ?_
      refine Q_then ?_
      refine K_if rfl (fun h19 => ?_) (fun h19 => ?_)
      ·
        refine K_seq ?_
        refine K_region ?_
        refine KV (R_assign rfl) rfl ?_
        refine K_nil ?_
        refine Q_then ?_
        refine K_ret ?_
        refine Q_then_ret ?_
        refine results_gen (rs := [.tmp 2]) (vs := [_]) rfl ⟨rfl, trivial⟩ ?_
        first | exact ⟨false, rfl, fun h => by cases h⟩ | (refine ⟨true, rfl, fun _ => ⟨by omega, by omega, by omega, fun x hx => ?_⟩⟩; obtain ⟨j, hj, rfl⟩ := List.getElem_of_mem hx; exact hall j hj (by omega))
      ·
        refine K_skip ?_
        refine Q_then ?_
        refine K_seq ?_
        refine K_seq ?_
        refine K_region ?_
        refine KV (R_assign rfl) rfl ?_
        refine K_nil ?_
        refine Q_then ?_
        refine K_block ?_
        refine K_loopD (G := Nat) [2, 3, 20, 21, 22, 23, 24, 25, 26, 27, 28, 29, 30, 31, 32, 33] (fun g => [(3, .int .i64 (g : Int))]) (fun hl g => hl) (fun g => H) (fun g => (g ≤ d.to.length) ∧ (∀ j (h : j < d.to.length), j < g → d.to[j].length ≤ 40)) (fun g => d.to.length - g) 0 ⟨Nat.zero_le _, fun j _ h => by simp at h⟩ ⟨rfl, trivial⟩ (by simp only [args0, Nat.reduceAdd, del, memN, beqN, Nat.reduceBEq, cond_true, cond_false]; rfl) rfl rfl ?_
        rintro k ⟨hk, hall⟩
        try dsimp only at hk
        try dsimp only at hall
        dsimp only [List.set, List.cons_append, List.nil_append]
        refine K_seq ?_
        refine K_seq ?_
        refine K_region ?_
        refine KV (R_move rfl) rfl ?_
        refine KV (R_fieldAddr 2 fd63_2 rfl) rfl ?_
        refine KV (R_loadO ty44 0 rfl rfl rfl rfl (fun _ => rfl) rfl) rfl ?_
        refine KV (R_len sl44 rfl) rfl ?_
        refine KV (R_cmp rfl rfl rfl) rfl ?_
        refine K_nil ?_
        refine Q_then ?_
        refine K_if rfl (fun h24 => ?_) (fun h24 => ?_)
        ·
          have hk' : k < d.to.length := by omega
          obtain ⟨tb, to_, ea, ecp, hte, hta, hes⟩ := hd.t.get hk'
          cases hte
          refine K_skip ?_
          refine Q_then ?_
          refine K_seq ?_
          refine K_block ?_
          refine K_seq ?_
          refine K_region ?_
          refine KV (R_fieldAddr 2 fd63_2 rfl) rfl ?_
          refine KV (R_loadO ty44 0 rfl rfl rfl rfl (fun _ => rfl) rfl) rfl ?_
          refine KV (R_move rfl) rfl ?_
          refine KV (R_indexN sl44 ty25 rfl rfl (by omega)) rfl ?_
          refine KV (R_loadH ty25 rfl (hta) rfl (fun _ => rfl) rfl) rfl ?_
          refine KV (R_len sl25 rfl) rfl ?_
          refine KV (R_cmp rfl rfl rfl) rfl ?_
          refine K_nil ?_
          refine Q_then ?_
          refine K_if rfl (fun h33 => ?_) (fun h33 => ?_)
          ·
            refine K_seq ?_
            refine K_region ?_
            refine KV (R_assign rfl) rfl ?_
            refine K_nil ?_
            refine Q_then ?_
            refine K_ret ?_
            refine Q_block_ret ?_
            refine Q_then_ret ?_
            refine Q_then_ret ?_
            refine Q_block_ret ?_
            refine Q_then_ret ?_
            refine results_gen (rs := [.tmp 2]) (vs := [_]) rfl ⟨rfl, trivial⟩ ?_
            first | exact ⟨false, rfl, fun h => by cases h⟩ | (refine ⟨true, rfl, fun _ => ⟨by omega, by omega, by omega, fun x hx => ?_⟩⟩; obtain ⟨j, hj, rfl⟩ := List.getElem_of_mem hx; exact hall j hj (by omega))
          ·
            have hall2 : ∀ j (h : j < d.to.length), j < k + 1 → d.to[j].length ≤ 40 := by
              intro j h hj
              by_cases e : j = k
              · subst e; omega
              · exact hall j h (by omega)
            refine K_skip ?_
            refine Q_block ?_
            refine Q_then ?_
            refine K_region ?_
            refine KV (R_move rfl) rfl ?_
            refine KV (R_add rfl rfl (by omega)) rfl ?_
            refine KV (R_assign rfl) rfl ?_
            refine K_nil ?_
            refine Q_nextD (k + 1) ⟨hk', hall2⟩ (by (try dsimp only); omega) ⟨rfl, trivial⟩ rfl rfl rfl
        ·
          have hk' : k = d.to.length := by omega
          refine K_exit ?_
          refine Q_then_exit ?_
          refine Q_then_exit ?_
          refine Q_block_exit ?_
          refine Q_then ?_
          refine K_seq ?_
          refine K_region ?_
          refine KV (R_assign rfl) rfl ?_
          refine K_nil ?_
          refine Q_then ?_
          refine K_ret ?_
          refine results_gen (rs := [.tmp 2]) (vs := [_]) rfl ⟨rfl, trivial⟩ ?_
          first | exact ⟨false, rfl, fun h => by cases h⟩ | (refine ⟨true, rfl, fun _ => ⟨by omega, by omega, by omega, fun x hx => ?_⟩⟩; obtain ⟨j, hj, rfl⟩ := List.getElem_of_mem hx; exact hall j hj (by omega))

theorem l33from_spec (d : Dt) (v1 v2 v3 : Value) (H : View) (hd : RepDt H d v1 v2 v3) : Sat Tryz.prog F28 #[.agg #[v1, v2, v3]] H (fun r _ => r = .agg #[v1, v2, v3]) := by
  obtain ⟨ua1, uc1x, rfl⟩ := hd.r.shape
  obtain ⟨ua2, uc2x, rfl⟩ := hd.a.shape
  obtain ⟨ua3, uc3x, rfl⟩ := hd.t.shape
  refine enterO (n := 10) (args := [.agg #[.slice ua1 d.ranks.length uc1x, .slice ua2 d.acc.length uc2x, .slice ua3 d.to.length uc3x]]) Tryz.func10 rfl rfl rfl fun w0 => ?_
  refine K_seq ?_
  refine K_region ?_
  refine KA (A_box rfl) rfl fun b1 => ?_
  refine KA (A_alloc z54) rfl fun b2 => ?_
  refine K_nil ?_
  refine Q_then ?_
  refine K_seq ?_
  refine K_region ?_
  refine KV (R_fieldAddr 0 fd63_0 rfl) rfl ?_
  refine KV (R_loadO ty25 1 rfl rfl rfl rfl (fun _ => rfl) rfl) rfl ?_
  refine KV (R_fieldAddr 1 fd63_1 rfl) rfl ?_
  refine KV (R_loadO ty52 1 rfl rfl rfl rfl (fun _ => rfl) rfl) rfl ?_
  refine KV (R_fieldAddr 2 fd63_2 rfl) rfl ?_
  refine KV (R_loadO ty44 1 rfl rfl rfl rfl (fun _ => rfl) rfl) rfl ?_
  refine KV (R_build z54 pl54 rfl rfl) rfl ?_
  refine K_store ty54 0 rfl rfl rfl rfl rfl rfl ?_
  refine K_nil ?_
  refine Q_then ?_
  refine K_ret ?_
  refine results_gen (rs := [.cell 2 37]) (vs := [_]) rfl ⟨⟨_, _, _, _, _, _, 0, rfl, rfl, ty54, (fun e => by cases e), rfl, rfl⟩, trivial⟩ ?_
  rfl

theorem short_spec (t : Tr) (H : View) (cs : List Value) (hb : t.size ≤ 1073741824) (hr : RepT H t cs) : Sat Tryz.prog F34 #[.agg cs.toArray] H (fun r _ => r = .bool (decide (t.size ≤ 9))) := by
  obtain ⟨x0, x1, x2, x3, rfl⟩ := hr.shape
  refine enterO (n := 6) (args := [.agg #[.int .i64 x0, .slice x1 x2 x3]]) Tryz.func9 rfl rfl rfl fun w0 => ?_
  refine K_seq ?_
  refine K_region ?_
  refine KA (A_box rfl) rfl fun b1 => ?_
  refine KV (R_assign rfl) rfl ?_
  refine K_nil ?_
  refine Q_then ?_
  refine K_seq ?_
  refine K_region ?_
  refine KV (R_loadO ty24 0 rfl rfl rfl rfl (fun e => by cases e) rfl) rfl ?_
  refine K_call c8 rfl rfl (size_spec t.size t H _ (Nat.le_refl _) (by omega) hr) ?_
  rintro _ V1 hv1 rfl
  refine KV (R_cmp rfl rfl rfl) rfl ?_
  refine KV (R_assign rfl) rfl ?_
  refine K_nil ?_
  refine Q_then ?_
  refine K_ret ?_
  refine results_gen (rs := [.tmp 2]) (vs := [_]) rfl ⟨rfl, trivial⟩ ?_
  refine congrArg Value.bool ?_
  simp only [decide_eq_decide]
  omega

theorem places_spec (d : Dt) (s : Nat) (v1 v2 v3 : Value) (H : View) (hd : RepDt H d v1 v2 v3) (hn : d.acc.length ≤ 512) (hs : s < d.ranks.length) (hr : 0 ≤ d.ranks[s] ∧ d.ranks[s] ≤ 2) : Sat Tryz.prog F66 #[.agg #[v1, v2, v3], .int .i64 (s : Int)] H (fun r _ => r = .int .i64 ((d.acc.length ^ d.ranks[s].toNat : Nat) : Int)) := by
  obtain ⟨ua1, uc1x, rfl⟩ := hd.r.shape
  obtain ⟨ua2, uc2x, rfl⟩ := hd.a.shape
  obtain ⟨ua3, uc3x, rfl⟩ := hd.t.shape
  obtain ⟨tb, to_, hte, hta⟩ := hd.r.get hs
  cases hte
  have hmul : d.acc.length * d.acc.length ≤ 512 * 512 := Nat.mul_le_mul hn hn
  have hmul2 : ((d.acc.length * d.acc.length : Nat) : Int) = (d.acc.length : Int) * (d.acc.length : Int) := Int.natCast_mul _ _
  refine enterO (n := 22) (args := [.agg #[.slice (some ⟨tb, to_, none⟩) d.ranks.length uc1x, .slice ua2 d.acc.length uc2x, .slice ua3 d.to.length uc3x], .int .i64 (s : Int)]) Tryz.func30 rfl rfl rfl fun w0 => ?_
  refine K_seq ?_
  refine K_region ?_
  refine KA (A_box rfl) rfl fun b2 => ?_
  refine KV (R_assign rfl) rfl ?_
  refine K_nil ?_
  refine Q_then ?_
  refine K_seq ?_
  refine K_region ?_
  refine KV (R_fieldAddr 1 fd63_1 rfl) rfl ?_
  refine KV (R_loadO ty52 0 rfl rfl rfl rfl (fun _ => rfl) rfl) rfl ?_
  refine KV (R_len sl52 rfl) rfl ?_
  refine KV (R_assign rfl) rfl ?_
  refine K_nil ?_
  refine Q_then ?_
  refine K_seq ?_
  refine K_seq ?_
  refine K_region ?_
  refine KV (R_fieldAddr 0 fd63_0 rfl) rfl ?_
  refine KV (R_loadO ty25 0 rfl rfl rfl rfl (fun _ => rfl) rfl) rfl ?_
  refine KV (R_move rfl) rfl ?_
  refine KV (R_indexN sl25 ty3 rfl rfl (by omega)) rfl ?_
  refine KV (R_loadH ty3 rfl (hta) rfl (fun _ => rfl) rfl) rfl ?_
  refine K_nil ?_
  refine Q_then ?_
  refine K_block ?_
  refine K_seq ?_
  refine K_region ?_
  refine KV (R_cmp rfl rfl rfl) rfl ?_
  refine KV (R_assign rfl) rfl ?_
  refine K_nil ?_
  refine Q_then ?_
  refine K_if rfl (fun h14 => ?_) (fun h14 => ?_)
  ·
    refine K_seq ?_
    refine K_region ?_
    refine KV (R_assign rfl) rfl ?_
    refine K_nil ?_
    refine Q_then ?_
    refine K_ret ?_
    refine Q_block_ret ?_
    refine Q_then_ret ?_
    refine results_gen (rs := [.tmp 4]) (vs := [_]) rfl ⟨rfl, trivial⟩ ?_
    have e : d.ranks[s].toNat = 0 := by omega
    rw [e]
    rfl
  ·
    refine K_seq ?_
    refine K_region ?_
    refine KV (R_cmp rfl rfl rfl) rfl ?_
    refine KV (R_assign rfl) rfl ?_
    refine K_nil ?_
    refine Q_then ?_
    refine K_if rfl (fun h16 => ?_) (fun h16 => ?_)
    ·
      refine K_seq ?_
      refine K_region ?_
      refine KV (R_move rfl) rfl ?_
      refine KV (R_assign rfl) rfl ?_
      refine K_nil ?_
      refine Q_then ?_
      refine K_ret ?_
      refine Q_block_ret ?_
      refine Q_then_ret ?_
      refine results_gen (rs := [.tmp 4]) (vs := [_]) rfl ⟨rfl, trivial⟩ ?_
      have e : d.ranks[s].toNat = 1 := by omega
      rw [e, Nat.pow_one]
      rfl
    ·
      refine K_skip ?_
      refine Q_block ?_
      refine Q_then ?_
      refine K_seq ?_
      refine K_region ?_
      refine KV (R_move rfl) rfl ?_
      refine KV (R_move rfl) rfl ?_
      refine KV (R_mul rfl rfl (by omega)) rfl ?_
      refine KV (R_assign rfl) rfl ?_
      refine K_nil ?_
      refine Q_then ?_
      refine K_ret ?_
      refine results_gen (rs := [.tmp 4]) (vs := [_]) rfl ⟨rfl, trivial⟩ ?_
      have e : d.ranks[s].toNat = 2 := by omega
      rw [e, Nat.pow_two, hmul2]
      rfl

theorem wide_spec (m n : Nat) (hm : m ≤ 2) (hn : n ≤ 512) (H : View) : Sat Tryz.prog F85 #[.int .i64 (m : Int), .int .i64 (n : Int)] H (fun r _ => r = .int .i64 ((n ^ m : Nat) : Int)) := by
  refine enterO (n := 14) (args := [.int .i64 (m : Int), .int .i64 (n : Int)]) Tryz.func79 rfl rfl rfl fun w0 => ?_
  refine K_seq ?_
  refine K_region ?_
  refine KV (R_assign rfl) rfl ?_
  refine K_nil ?_
  refine Q_then ?_
  refine K_seq ?_
  refine K_region ?_
  refine KV (R_assign rfl) rfl ?_
  refine K_nil ?_
  refine Q_then ?_
  refine K_seq ?_
  refine K_seq ?_
  refine K_region ?_
  refine KV (R_move rfl) rfl ?_
  refine KV (R_move rfl) rfl ?_
  refine K_nil ?_
  refine Q_then ?_
  refine K_block ?_
  refine K_loopD (G := Nat) [5, 7, 8, 9, 10, 11, 12] (fun g => [(7, .int .i64 (g : Int)), (5, .int .i64 ((n ^ g : Nat) : Int))]) (fun hl g => hl) (fun g => H) (fun g => (g ≤ m)) (fun g => m - g) 0 (Nat.zero_le _) ⟨rfl, rfl, trivial⟩ (by simp only [args0, Nat.reduceAdd, del, memN, beqN, Nat.reduceBEq, cond_true, cond_false]; rfl) rfl rfl ?_
  rintro k hk
  try dsimp only at hk
  dsimp only [List.set, List.cons_append, List.nil_append]
  refine K_seq ?_
  refine K_region ?_
  refine KV (R_cmp rfl rfl rfl) rfl ?_
  refine K_nil ?_
  refine Q_then ?_
  refine K_seq ?_
  refine K_if rfl (fun h8 => ?_) (fun h8 => ?_)
  ·
    have hk' : k < m := by omega
    have hp : n ^ k * n ≤ 512 * 512 := by
      refine Nat.mul_le_mul ?_ hn
      rcases Nat.eq_zero_or_pos k with e | e
      · subst e; simp
      · have : k = 1 := by omega
        subst this; simpa using hn
    have hp2 : ((n ^ k * n : Nat) : Int) = ((n ^ k : Nat) : Int) * (n : Int) := Int.natCast_mul _ _
    refine K_skip ?_
    refine Q_then ?_
    refine K_seq ?_
    refine K_block ?_
    refine K_region ?_
    refine KV (R_move rfl) rfl ?_
    refine KV (R_move rfl) rfl ?_
    refine KV (R_mul rfl rfl (by omega)) rfl ?_
    refine KV (R_assign rfl) rfl ?_
    refine K_nil ?_
    refine Q_block ?_
    refine Q_then ?_
    refine K_region ?_
    refine KV (R_add rfl rfl (by omega)) rfl ?_
    refine KV (R_move rfl) rfl ?_
    refine K_nil ?_
    refine Q_nextD (k + 1) hk' (by (try dsimp only); omega) ⟨rfl, congrArg (fun z => some (Value.int .i64 z)) (by rw [Nat.pow_succ]; exact (Int.natCast_mul _ _).symm), trivial⟩ rfl rfl rfl
  ·
    have hk' : k = m := by omega
    subst hk'
    refine K_exit ?_
    refine Q_then_exit ?_
    refine Q_then_exit ?_
    refine Q_block_exit ?_
    refine Q_then ?_
    refine K_seq ?_
    refine K_region ?_
    refine KV (R_move rfl) rfl ?_
    refine KV (R_assign rfl) rfl ?_
    refine K_nil ?_
    refine Q_then ?_
    refine K_ret ?_
    refine results_gen (rs := [.tmp 4]) (vs := [_]) rfl ⟨rfl, trivial⟩ ?_
    rfl

theorem dstate_spec (d : Dt) (q : Int) (v1 v2 v3 : Value) (H : View) (hd : RepDt H d v1 v2 v3) : Sat Tryz.prog F88 #[.agg #[v1, v2, v3], .int .i64 q] H (fun r _ => r = .bool (!badQ d.acc.length q)) := by
  obtain ⟨ua1, uc1x, rfl⟩ := hd.r.shape
  obtain ⟨ua2, uc2x, rfl⟩ := hd.a.shape
  obtain ⟨ua3, uc3x, rfl⟩ := hd.t.shape
  refine enterO (n := 14) (args := [.agg #[.slice ua1 d.ranks.length uc1x, .slice ua2 d.acc.length uc2x, .slice ua3 d.to.length uc3x], .int .i64 q]) Tryz.func82 rfl rfl rfl fun w0 => ?_
  refine K_seq ?_
  refine K_region ?_
  refine KA (A_box rfl) rfl fun b2 => ?_
  refine KV (R_assign rfl) rfl ?_
  refine K_nil ?_
  refine Q_then ?_
  refine K_seq ?_
  refine K_region ?_
  refine KV (R_move rfl) rfl ?_
  refine KV (R_cmp rfl rfl rfl) rfl ?_
  refine KV (R_move rfl) rfl ?_
  refine K_split ?_ ?_
  ·
    intro h7
    refine K_gyes rfl rfl ?_
    refine KV (R_move rfl) rfl ?_
    refine K_gyes rfl rfl ?_
    refine KV (R_fieldAddr 1 fd54_1 rfl) rfl ?_
    refine K_gyes rfl rfl ?_
    refine KV (R_loadO ty52 0 rfl rfl rfl rfl (fun _ => rfl) rfl) rfl ?_
    refine K_gyes rfl rfl ?_
    refine KV (R_len sl52 rfl) rfl ?_
    refine K_gyes rfl rfl ?_
    refine KV (R_cmp rfl rfl rfl) rfl ?_
    refine KV (R_pickT rfl rfl) rfl ?_
    refine KV (R_assign rfl) rfl ?_
    refine K_nil ?_
    refine Q_then ?_
    refine K_ret ?_
    refine results_gen (rs := [.tmp 4]) (vs := [_]) rfl ⟨rfl, trivial⟩ ?_
    simp [tupV, badQ, h7]
  ·
    intro h7
    refine K_gno rfl rfl rfl rfl ?_
    refine K_gno rfl rfl rfl rfl ?_
    refine K_gno rfl rfl rfl rfl ?_
    refine K_gno rfl rfl rfl rfl ?_
    refine K_gno rfl rfl rfl rfl ?_
    refine KV (R_pickF rfl rfl) rfl ?_
    refine KV (R_assign rfl) rfl ?_
    refine K_nil ?_
    refine Q_then ?_
    refine K_ret ?_
    refine results_gen (rs := [.tmp 4]) (vs := [_]) rfl ⟨rfl, trivial⟩ ?_
    simp [tupV, badQ, h7]

theorem dbad_spec (d : Dt) (b : Nat) (q : Int) (v1 v2 v3 : Value) (H : View) (hd : RepDt H d v1 v2 v3) (hb : At H b 0 [v1, v2, v3]) : Sat Tryz.prog F87 #[.int .i64 q, ptr b] H (fun r _ => r = .bool (badQ d.acc.length q)) := by
  refine enterO (n := 8) (args := [.int .i64 q, ptr b]) Tryz.func81 rfl rfl rfl fun w0 => ?_
  refine K_seq ?_
  refine K_region ?_
  refine KV (R_assign rfl) rfl ?_
  refine K_nil ?_
  refine Q_then ?_
  refine K_seq ?_
  refine K_region ?_
  refine KV (R_loadH ty54 rfl (hb) rfl (fun e => by cases e) rfl) rfl ?_
  refine KV (R_move rfl) rfl ?_
  refine K_call c88 rfl rfl (dstate_spec d q v1 v2 v3 H hd) ?_
  rintro _ V' hle rfl
  refine KV (R_not rfl) rfl ?_
  refine KV (R_assign rfl) rfl ?_
  refine K_nil ?_
  refine Q_then ?_
  refine K_ret ?_
  refine results_gen (rs := [.tmp 3]) (vs := [_]) rfl ⟨rfl, trivial⟩ ?_
  simp [tupV]

theorem dcheck_spec (d : Dt) (v1 v2 v3 : Value) (H : View) (hd : RepDt H d v1 v2 v3) (hb : d.ranks.length ≤ 1048576 ∧ d.acc.length ≤ 1048576 ∧ d.to.length ≤ 1048576 ∧ ∀ x ∈ d.to, x.length ≤ 1048576) : Sat Tryz.prog F63 #[.agg #[v1, v2, v3]] H (fun r _ => r = .int .i64 (dtErr d)) := by
  obtain ⟨hb1, hb2, hb3, hb4⟩ := hb
  obtain ⟨ua1, uc1x, rfl⟩ := hd.r.shape
  obtain ⟨ua2, uc2x, rfl⟩ := hd.a.shape
  obtain ⟨ua3, uc3x, rfl⟩ := hd.t.shape
  refine enterO (n := 61) (args := [.agg #[.slice ua1 d.ranks.length uc1x, .slice ua2 d.acc.length uc2x, .slice ua3 d.to.length uc3x]]) Tryz.func34 rfl rfl rfl fun w0 => ?_
  refine K_seq ?_
  refine K_region ?_
  refine KA (A_box rfl) rfl fun b1 => ?_
  refine KV (R_assign rfl) rfl ?_
  refine K_nil ?_
  refine KQ_pubblk (by intro x hx; simp [feet] at hx) fun V0 hle0 hb1_ => ?_
  have hA := At.of hb1_
  have hA0 := hA.one (j := 0) rfl
  have hA1 := hA.one (j := 1) rfl
  have hA2 := hA.one (j := 2) rfl
  refine Q_then ?_
  refine K_seq ?_
  refine K_seq ?_
  refine K_region ?_
  refine KV (R_fieldAddr 0 fd54_0 rfl) rfl ?_
  refine KV (R_loadH ty47 rfl (hA0) rfl (fun _ => rfl) rfl) rfl ?_
  refine K_call c72 rfl rfl (acheck_spec d.ranks _ V0 (hd.r.mono hle0) (by omega)) ?_
  rintro _ V1 hle1 rfl
  refine KV (R_assign rfl) rfl ?_
  refine K_nil ?_
  refine Q_then ?_
  refine K_seq ?_
  refine K_region ?_
  refine KV (R_move rfl) rfl ?_
  refine KV (R_cmp rfl rfl rfl) rfl ?_
  refine K_nil ?_
  refine Q_then ?_
  refine K_if rfl (fun h13 => ?_) (fun h13 => ?_)
  ·
    refine K_seq ?_
    refine K_region ?_
    refine KV (R_move rfl) rfl ?_
    refine KV (R_assign rfl) rfl ?_
    refine K_nil ?_
    refine Q_then ?_
    refine K_ret ?_
    refine Q_then_ret ?_
    refine results_gen (rs := [.tmp 2]) (vs := [_]) rfl ⟨rfl, trivial⟩ ?_
    simp only [tupV, dtErr]
    rw [if_pos h13]
  ·
    have hrks := (ranksErr_ok (Decidable.not_not.1 h13)).2
    refine K_skip ?_
    refine Q_then ?_
    refine K_seq ?_
    refine K_region ?_
    refine KV (R_fieldAddr 1 fd54_1 rfl) rfl ?_
    refine KV (R_loadH ty52 rfl (hA1.mono hle1) rfl (fun _ => rfl) rfl) rfl ?_
    refine KV (R_len sl52 rfl) rfl ?_
    refine KV (R_assign rfl) rfl ?_
    refine K_nil ?_
    refine Q_then ?_
    refine K_seq ?_
    refine K_seq ?_
    refine K_region ?_
    refine KV (R_move rfl) rfl ?_
    refine KV (R_cmp rfl rfl rfl) rfl ?_
    refine KV (R_move rfl) rfl ?_
    refine K_split ?_ ?_
    ·
      intro h20
      refine K_gno rfl rfl rfl rfl ?_
      refine K_gno rfl rfl rfl rfl ?_
      refine KV (R_pickT rfl rfl) rfl ?_
      refine K_nil ?_
      refine Q_then ?_
      refine K_ifT rfl ?_
      refine K_seq ?_
      refine K_region ?_
      refine KV (R_assign rfl) rfl ?_
      refine K_nil ?_
      refine Q_then ?_
      refine K_ret ?_
      refine Q_then_ret ?_
      refine results_gen (rs := [.tmp 2]) (vs := [_]) rfl ⟨rfl, trivial⟩ ?_
      simp only [tupV, dtErr]
      rw [if_neg h13, if_pos (by omega)]
    ·
      intro h20
      refine K_gyes rfl rfl ?_
      refine KV (R_move rfl) rfl ?_
      refine K_gyes rfl rfl ?_
      refine KV (R_cmp rfl rfl rfl) rfl ?_
      refine KV (R_pickF rfl rfl) rfl ?_
      refine K_nil ?_
      refine Q_then ?_
      refine K_if rfl (fun h23 => ?_) (fun h23 => ?_)
      ·
        refine K_seq ?_
        refine K_region ?_
        refine KV (R_assign rfl) rfl ?_
        refine K_nil ?_
        refine Q_then ?_
        refine K_ret ?_
        refine Q_then_ret ?_
        refine results_gen (rs := [.tmp 2]) (vs := [_]) rfl ⟨rfl, trivial⟩ ?_
        simp only [tupV, dtErr]
        rw [if_neg h13, if_pos (by omega)]
      ·
        refine K_skip ?_
        refine Q_then ?_
        refine K_seq ?_
        refine K_seq ?_
        refine K_region ?_
        refine KV (R_fieldAddr 2 fd54_2 rfl) rfl ?_
        refine KV (R_loadH ty44 rfl (hA2.mono hle1) rfl (fun _ => rfl) rfl) rfl ?_
        refine KV (R_len sl44 rfl) rfl ?_
        refine KV (R_fieldAddr 0 fd54_0 rfl) rfl ?_
        refine KV (R_loadH ty47 rfl (hA0.mono hle1) rfl (fun _ => rfl) rfl) rfl ?_
        refine KV (R_len sl47 rfl) rfl ?_
        refine KV (R_cmp rfl rfl rfl) rfl ?_
        refine K_nil ?_
        refine Q_then ?_
        refine K_if rfl (fun h30 => ?_) (fun h30 => ?_)
        ·
          refine K_seq ?_
          refine K_region ?_
          refine KV (R_assign rfl) rfl ?_
          refine K_nil ?_
          refine Q_then ?_
          refine K_ret ?_
          refine Q_then_ret ?_
          refine results_gen (rs := [.tmp 2]) (vs := [_]) rfl ⟨rfl, trivial⟩ ?_
          simp only [tupV, dtErr]
          rw [if_neg h13, if_neg (by omega), if_pos h30]
        ·
          refine K_skip ?_
          refine Q_then ?_
          refine K_seq ?_
          refine K_seq ?_
          refine K_region ?_
          refine KV (R_fieldAddr 2 fd54_2 rfl) rfl ?_
          refine KV (R_loadH ty44 rfl (hA2.mono hle1) rfl (fun _ => rfl) rfl) rfl ?_
          refine KV (R_len sl44 rfl) rfl ?_
          refine KV (R_move rfl) rfl ?_
          refine K_nil ?_
          refine Q_then ?_
          refine K_block ?_
          refine K_loopD (G := Nat × View) [2, 5, 6, 34, 35, 36, 37, 38, 39, 40, 41, 42, 43, 44, 45, 46, 47, 48, 49] (fun g => [(34, .int .i64 (g.1 : Int))]) (fun hl g => hl) (fun g => g.2) (fun g => (g.1 ≤ d.to.length) ∧ (VLe V0 g.2) ∧ (∀ j (h : j < d.to.length), j < g.1 → (d.to.getD j []).length = d.acc.length ^ (d.ranks.getD j 0).toNat)) (fun g => d.to.length - g.1) (0, V1) ⟨Nat.zero_le _, hle1, fun j _ h => by simp at h⟩ ⟨rfl, trivial⟩ (by simp only [args0, Nat.reduceAdd, del, memN, beqN, Nat.reduceBEq, cond_true, cond_false]; rfl) rfl rfl ?_
          rintro ⟨s, V⟩ ⟨hs, hV, hwid⟩
          dsimp only at hs hV hwid
          dsimp only [List.set, List.cons_append, List.nil_append]
          refine K_seq ?_
          refine K_region ?_
          refine KV (R_cmp rfl rfl rfl) rfl ?_
          refine K_nil ?_
          refine Q_then ?_
          refine K_seq ?_
          refine K_if rfl (fun h35 => ?_) (fun h35 => ?_)
          ·
            have hs' : s < d.to.length := by omega
            obtain ⟨tb, to_, ea, ecp, hte, hta, hes⟩ := (hd.mono (hle0.trans hV)).t.get hs'
            cases hte
            have hsm : s < d.ranks.length := by omega
            obtain ⟨rb, ro, hre, hrk⟩ := (hd.mono (hle0.trans hV)).r.get hsm
            cases hre
            have hrr := hrks s hsm
            have hgs : d.to.getD s [] = d.to[s] := by simp [List.getD, hs']
            have hgr : d.ranks.getD s 0 = d.ranks[s] := by simp [List.getD, hsm]
            refine K_skip ?_
            refine Q_then ?_
            refine K_seq ?_
            refine K_block ?_
            refine K_seq ?_
            refine K_region ?_
            refine KV (R_move rfl) rfl ?_
            refine KV (R_indexN sl44 ty25 rfl rfl (by omega)) rfl ?_
            refine KV (R_loadH ty25 rfl (hta) rfl (fun _ => rfl) rfl) rfl ?_
            refine KV (R_assign rfl) rfl ?_
            refine KV (R_assign rfl) rfl ?_
            refine K_nil ?_
            refine Q_then ?_
            refine K_seq ?_
            refine K_region ?_
            refine KV (R_move rfl) rfl ?_
            refine KV (R_len sl25 rfl) rfl ?_
            refine KV (R_fieldAddr 0 fd54_0 rfl) rfl ?_
            refine KV (R_loadH ty47 rfl (hA0.mono hV) rfl (fun _ => rfl) rfl) rfl ?_
            refine KV (R_move rfl) rfl ?_
            refine KV (R_indexN sl47 ty3 rfl rfl (by omega)) rfl ?_
            refine KV (R_loadH ty3 rfl (hrk) rfl (fun _ => rfl) rfl) rfl ?_
            refine KV (R_move rfl) rfl ?_
            rw [show d.ranks[s] = ((d.ranks[s].toNat : Nat) : Int) by omega]
            refine K_call c85 rfl rfl (wide_spec d.ranks[s].toNat d.acc.length (by omega) (by omega) V) ?_
            rintro _ V2 hv2 rfl
            refine KV (R_cmp rfl rfl rfl) rfl ?_
            refine K_nil ?_
            refine Q_then ?_
            refine K_if rfl (fun h48 => ?_) (fun h48 => ?_)
            ·
              have hwb : widthBad d = true := by
                unfold widthBad
                rw [List.any_eq_true]
                refine ⟨s, List.mem_range.2 hs', ?_⟩
                simp only [decide_eq_true_eq, hgs, hgr]
                omega
              refine K_seq ?_
              refine K_region ?_
              refine KV (R_assign rfl) rfl ?_
              refine K_nil ?_
              refine Q_then ?_
              refine K_ret ?_
              refine Q_block_ret ?_
              refine Q_then_ret ?_
              refine Q_then_ret ?_
              refine Q_block_ret ?_
              refine Q_then_ret ?_
              refine results_gen (rs := [.tmp 2]) (vs := [_]) rfl ⟨rfl, trivial⟩ ?_
              simp only [tupV, dtErr]
              rw [if_neg h13, if_neg (by omega), if_neg h30, if_pos hwb]
            ·
              have hwid2 : ∀ j (h : j < d.to.length), j < s + 1 → (d.to.getD j []).length = d.acc.length ^ (d.ranks.getD j 0).toNat := by
                intro j h hj
                by_cases e : j = s
                · subst e; rw [hgs, hgr]; omega
                · exact hwid j h (by omega)
              refine K_skip ?_
              refine Q_block ?_
              refine Q_then ?_
              refine K_region ?_
              refine KV (R_add rfl rfl (by omega)) rfl ?_
              refine KV (R_move rfl) rfl ?_
              refine K_nil ?_
              refine Q_nextD (s + 1, V2) ⟨hs', hV.trans hv2, hwid2⟩ (by (try dsimp only); omega) ⟨rfl, trivial⟩ rfl rfl rfl
          ·
            have hwb : widthBad d = false := by
              unfold widthBad
              rw [List.any_eq_false]
              intro s hs
              have hs2 := List.mem_range.1 hs
              have := hwid s hs2 (by omega)
              simpa using this
            refine K_exit ?_
            refine Q_then_exit ?_
            refine Q_then_exit ?_
            refine Q_block_exit ?_
            refine Q_then ?_
            refine K_seq ?_
            refine K_seq ?_
            refine K_region ?_
            refine KV (R_fieldAddr 2 fd54_2 rfl) rfl ?_
            refine KV (R_loadH ty44 rfl (hA2.mono hV) rfl (fun _ => rfl) rfl) rfl ?_
            refine KV (R_len sl44 rfl) rfl ?_
            refine KV (R_move rfl) rfl ?_
            refine K_nil ?_
            refine Q_then ?_
            refine K_block ?_
            refine K_loopD (G := Nat × View) [2, 8, 53, 54, 55, 56, 57, 58, 59, 60] (fun g => [(53, .int .i64 (g.1 : Int))]) (fun hl g => hl) (fun g => g.2) (fun g => (g.1 ≤ d.to.length) ∧ (VLe V0 g.2) ∧ (∀ j (h : j < d.to.length), j < g.1 → d.to[j].any (badQ d.acc.length) = false)) (fun g => d.to.length - g.1) (0, V) ⟨Nat.zero_le _, hV, fun j _ h => by simp at h⟩ ⟨rfl, trivial⟩ (by simp only [args0, Nat.reduceAdd, del, memN, beqN, Nat.reduceBEq, cond_true, cond_false]; rfl) rfl rfl ?_
            rintro ⟨s, V⟩ ⟨hs, hV, hent⟩
            dsimp only at hs hV hent
            dsimp only [List.set, List.cons_append, List.nil_append]
            refine K_seq ?_
            refine K_region ?_
            refine KV (R_cmp rfl rfl rfl) rfl ?_
            refine K_nil ?_
            refine Q_then ?_
            refine K_seq ?_
            refine K_if rfl (fun h54 => ?_) (fun h54 => ?_)
            ·
              have hs' : s < d.to.length := by omega
              obtain ⟨tb, to_, ea, ecp, hte, hta, hes⟩ := (hd.mono (hle0.trans hV)).t.get hs'
              cases hte
              refine K_skip ?_
              refine Q_then ?_
              refine K_seq ?_
              refine K_block ?_
              refine K_seq ?_
              refine K_region ?_
              refine KV (R_indexN sl44 ty25 rfl rfl (by omega)) rfl ?_
              refine KV (R_loadH ty25 rfl (hta) rfl (fun _ => rfl) rfl) rfl ?_
              refine KV (R_assign rfl) rfl ?_
              refine K_nil ?_
              refine Q_then ?_
              refine K_seq ?_
              refine K_region ?_
              refine KV (R_move rfl) rfl ?_
              refine KV (R_makeFunc rfl rfl) rfl ?_
              refine K_call c86 rfl rfl (sicon_spec F87 [ptr b1] (badQ d.acc.length) d.to[s] _ V hes (Nat.le_trans (hb4 _ (List.getElem_mem hs')) (by decide)) c87 (fun x W _ hW => dbad_spec d b1 x _ _ _ W (hd.mono (hle0.trans (hV.trans hW))) (hA.mono (hV.trans hW)))) ?_
              rintro _ V2 hle2 rfl
              refine K_nil ?_
              refine Q_then ?_
              refine K_ifB rfl (fun h59 => ?_) (fun h59 => ?_)
              ·
                have heb : entryBad d = true := List.any_eq_true.2 ⟨_, List.getElem_mem hs', h59⟩
                refine K_seq ?_
                refine K_region ?_
                refine KV (R_assign rfl) rfl ?_
                refine K_nil ?_
                refine Q_then ?_
                refine K_ret ?_
                refine Q_block_ret ?_
                refine Q_then_ret ?_
                refine Q_then_ret ?_
                refine Q_block_ret ?_
                refine Q_then_ret ?_
                refine results_gen (rs := [.tmp 2]) (vs := [_]) rfl ⟨rfl, trivial⟩ ?_
                simp only [tupV, dtErr]
                rw [if_neg h13, if_neg (by omega), if_neg h30, hwb, heb]
                rfl
              ·
                have hent2 : ∀ j (h : j < d.to.length), j < s + 1 → d.to[j].any (badQ d.acc.length) = false := by
                  intro j h hj
                  by_cases e : j = s
                  · subst e; exact h59
                  · exact hent j h (by omega)
                refine K_skip ?_
                refine Q_block ?_
                refine Q_then ?_
                refine K_region ?_
                refine KV (R_add rfl rfl (by omega)) rfl ?_
                refine KV (R_move rfl) rfl ?_
                refine K_nil ?_
                refine Q_nextD (s + 1, V2) ⟨hs', hV.trans hle2, hent2⟩ (by (try dsimp only); omega) ⟨rfl, trivial⟩ rfl rfl rfl
            ·
              have heb : entryBad d = false := by
                unfold entryBad
                rw [List.any_eq_false]
                intro x hx
                obtain ⟨j, hj, rfl⟩ := List.getElem_of_mem hx
                simp [hent j hj (by omega)]
              refine K_exit ?_
              refine Q_then_exit ?_
              refine Q_then_exit ?_
              refine Q_block_exit ?_
              refine Q_then ?_
              refine K_seq ?_
              refine K_region ?_
              refine KV (R_assign rfl) rfl ?_
              refine K_nil ?_
              refine Q_then ?_
              refine K_ret ?_
              refine results_gen (rs := [.tmp 2]) (vs := [_]) rfl ⟨rfl, trivial⟩ ?_
              simp only [tupV, dtErr]
              rw [if_neg h13, if_neg (by omega), if_neg h30, hwb, heb]
              rfl
end Go.Proofs.X
