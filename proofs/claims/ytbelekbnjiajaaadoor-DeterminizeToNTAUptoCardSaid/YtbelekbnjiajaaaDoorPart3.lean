/-
  Part of the proof: rules for walks, contracts of the functions that the statements reach, plain laws. Own work. No statement of the seat is proved here.
-/
import Derived.Test.YtbelekbnjiajaaaDoorPart2
namespace Go.Proofs.X
open Go Pal Go.Proofs
attribute [local irreducible] Pal.KO Pal.KC Pal.KQ Pal.KD
theorem c85 : callable Tryd.prog F85 = true := by kernel_rfl
theorem c87 : callable Tryd.prog F87 = true := by kernel_rfl
theorem c88 : callable Tryd.prog F88 = true := by kernel_rfl
theorem small_spec (d : Dt) (v1 v2 v3 : Value) (H : View) (hd : RepDt H d v1 v2 v3) (hb : d.ranks.length ≤ 1048576 ∧ d.acc.length ≤ 1048576 ∧ d.to.length ≤ 1048576 ∧ ∀ x ∈ d.to, x.length ≤ 1048576) : Sat Tryd.prog F26 #[.agg #[v1, v2, v3]] H (fun r _ => ∃ b, r = .bool b ∧ (b = true → d.ranks.length ≤ 8 ∧ d.acc.length ≤ 5 ∧ d.to.length ≤ 8 ∧ ∀ x ∈ d.to, x.length ≤ 40)) := by
  obtain ⟨hb1, hb2, hb3, hb4⟩ := hb
  obtain ⟨ua1, uc1x, rfl⟩ := hd.r.shape
  obtain ⟨ua2, uc2x, rfl⟩ := hd.a.shape
  obtain ⟨ua3, uc3x, rfl⟩ := hd.t.shape
  refine enterO (n := 34) (args := [.agg #[.slice ua1 d.ranks.length uc1x, .slice ua2 d.acc.length uc2x, .slice ua3 d.to.length uc3x]]) Tryd.func26 rfl rfl rfl fun w0 => ?_
  refine K_seq ?_
  refine K_region ?_
  refine KA (A_box rfl) rfl fun b1 => ?_
  refine KV (R_assign rfl) rfl ?_
  refine K_nil ?_
  refine Q_then ?_
  refine K_seq ?_
  refine K_seq ?_
  refine K_region ?_
  refine KV (R_fieldAddr 0 fd63_0 rfl) rfl ?_
  refine KV (R_loadO ty25 0 rfl rfl rfl rfl (fun _ => rfl) rfl) rfl ?_
  refine KV (R_len sl25 rfl) rfl ?_
  refine KV (R_cmp rfl rfl rfl) rfl ?_
  refine KV (R_move rfl) rfl ?_
  refine K_split ?_ ?_
  ·
    intro h8
    refine K_gno rfl rfl rfl rfl ?_
    refine K_gno rfl rfl rfl rfl ?_
    refine K_gno rfl rfl rfl rfl ?_
    refine K_gno rfl rfl rfl rfl ?_
    refine KV (R_pickT rfl rfl) rfl ?_
    refine KV (R_move rfl) rfl ?_
    refine K_gno rfl rfl rfl rfl ?_
    refine K_gno rfl rfl rfl rfl ?_
    refine K_gno rfl rfl rfl rfl ?_
    refine K_gno rfl rfl rfl rfl ?_
    refine KV (R_pickT rfl rfl) rfl ?_
    refine K_nil ?_
    refine Q_then ?_
    refine K_ifT rfl ?_
    refine K_seq ?_
    refine K_region ?_
    refine KV (R_assign rfl) rfl ?_
    refine K_nil ?_
    refine Q_then ?_
    refine K_ret ?_
    refine Q_then_ret ?_
    refine results_gen (rs := [.tmp 2]) (vs := [_]) rfl ⟨rfl, trivial⟩ ?_
    first | exact ⟨false, rfl, fun h => by cases h⟩ | (refine ⟨true, rfl, fun _ => ⟨by omega, by omega, by omega, fun x hx => ?_⟩⟩; obtain ⟨j, hj, rfl⟩ := List.getElem_of_mem hx; exact hall j hj (by omega))
  ·
    intro h8
    refine K_gyes rfl rfl ?_
    refine KV (R_fieldAddr 1 fd63_1 rfl) rfl ?_
    refine K_gyes rfl rfl ?_
    refine KV (R_loadO ty52 0 rfl rfl rfl rfl (fun _ => rfl) rfl) rfl ?_
    refine K_gyes rfl rfl ?_
    refine KV (R_len sl52 rfl) rfl ?_
    refine K_gyes rfl rfl ?_
    refine KV (R_cmp rfl rfl rfl) rfl ?_
    refine KV (R_pickF rfl rfl) rfl ?_
    refine KV (R_move rfl) rfl ?_
    refine K_split ?_ ?_
    ·
      intro h14
      refine K_gno rfl rfl rfl rfl ?_
      refine K_gno rfl rfl rfl rfl ?_
      refine K_gno rfl rfl rfl rfl ?_
      refine K_gno rfl rfl rfl rfl ?_
      refine KV (R_pickT rfl rfl) rfl ?_
      refine K_nil ?_
      refine Q_then ?_
      refine K_ifT rfl ?_
      refine K_seq ?_
      refine K_region ?_
      refine KV (R_assign rfl) rfl ?_
      refine K_nil ?_
      refine Q_then ?_
      refine K_ret ?_
      refine Q_then_ret ?_
      refine results_gen (rs := [.tmp 2]) (vs := [_]) rfl ⟨rfl, trivial⟩ ?_
      first | exact ⟨false, rfl, fun h => by cases h⟩ | (refine ⟨true, rfl, fun _ => ⟨by omega, by omega, by omega, fun x hx => ?_⟩⟩; obtain ⟨j, hj, rfl⟩ := List.getElem_of_mem hx; exact hall j hj (by omega))
    ·
      intro h14
      refine K_gyes rfl rfl ?_
      refine KV (R_fieldAddr 2 fd63_2 rfl) rfl ?_
      refine K_gyes rfl rfl ?_
      refine KV (R_loadO ty44 0 rfl rfl rfl rfl (fun _ => rfl) rfl) rfl ?_
      refine K_gyes rfl rfl ?_
      refine KV (R_len sl44 rfl) rfl ?_
      refine K_gyes rfl rfl ?_
      refine KV (R_cmp rfl rfl rfl) rfl ?_
      refine KV (R_pickF rfl rfl) rfl ?_
      refine K_nil ?_
      refine Q_then ?_
      refine K_if rfl (fun h19 => ?_) (fun h19 => ?_)
      ·
        refine K_seq ?_
        refine K_region ?_
        refine KV (R_assign rfl) rfl ?_
        refine K_nil ?_
        refine Q_then ?_
        refine K_ret ?_
        refine Q_then_ret ?_
        refine results_gen (rs := [.tmp 2]) (vs := [_]) rfl ⟨rfl, trivial⟩ ?_
        first | exact ⟨false, rfl, fun h => by cases h⟩ | (refine ⟨true, rfl, fun _ => ⟨by omega, by omega, by omega, fun x hx => ?_⟩⟩; obtain ⟨j, hj, rfl⟩ := List.getElem_of_mem hx; exact hall j hj (by omega))
      ·
        refine K_skip ?_
        refine Q_then ?_
        refine K_seq ?_
        refine K_seq ?_
        refine K_region ?_
        refine KV (R_assign rfl) rfl ?_
        refine K_nil ?_
        refine Q_then ?_
        refine K_block ?_
        refine K_loopD (G := Nat) [2, 3, 20, 21, 22, 23, 24, 25, 26, 27, 28, 29, 30, 31, 32, 33] (fun g => [(3, .int .i64 (g : Int))]) (fun hl g => hl) (fun g => H) (fun g => (g ≤ d.to.length) ∧ (∀ j (h : j < d.to.length), j < g → d.to[j].length ≤ 40)) (fun g => d.to.length - g) 0 ⟨Nat.zero_le _, fun j _ h => by simp at h⟩ ⟨rfl, trivial⟩ (by simp only [args0, Nat.reduceAdd, del, memN, beqN, Nat.reduceBEq, cond_true, cond_false]; rfl) rfl rfl ?_
        rintro k ⟨hk, hall⟩
        try dsimp only at hk
        try dsimp only at hall
        dsimp only [List.set, List.cons_append, List.nil_append]
        refine K_seq ?_
        refine K_seq ?_
        refine K_region ?_
        refine KV (R_move rfl) rfl ?_
        refine KV (R_fieldAddr 2 fd63_2 rfl) rfl ?_
        refine KV (R_loadO ty44 0 rfl rfl rfl rfl (fun _ => rfl) rfl) rfl ?_
        refine KV (R_len sl44 rfl) rfl ?_
        refine KV (R_cmp rfl rfl rfl) rfl ?_
        refine K_nil ?_
        refine Q_then ?_
        refine K_if rfl (fun h24 => ?_) (fun h24 => ?_)
        ·
          have hk' : k < d.to.length := by omega
          obtain ⟨tb, to_, ea, ecp, hte, hta, hes⟩ := hd.t.get hk'
          cases hte
          refine K_skip ?_
          refine Q_then ?_
          refine K_seq ?_
          refine K_block ?_
          refine K_seq ?_
          refine K_region ?_
          refine KV (R_fieldAddr 2 fd63_2 rfl) rfl ?_
          refine KV (R_loadO ty44 0 rfl rfl rfl rfl (fun _ => rfl) rfl) rfl ?_
          refine KV (R_move rfl) rfl ?_
          refine KV (R_indexN sl44 ty25 rfl rfl (by omega)) rfl ?_
          refine KV (R_loadH ty25 rfl (hta) rfl (fun _ => rfl) rfl) rfl ?_
          refine KV (R_len sl25 rfl) rfl ?_
          refine KV (R_cmp rfl rfl rfl) rfl ?_
          refine K_nil ?_
          refine Q_then ?_
          refine K_if rfl (fun h33 => ?_) (fun h33 => ?_)
          ·
            refine K_seq ?_
            refine K_region ?_
            refine KV (R_assign rfl) rfl ?_
            refine K_nil ?_
            refine Q_then ?_
            refine K_ret ?_
            refine Q_block_ret ?_
            refine Q_then_ret ?_
            refine Q_then_ret ?_
            refine Q_block_ret ?_
            refine Q_then_ret ?_
            refine results_gen (rs := [.tmp 2]) (vs := [_]) rfl ⟨rfl, trivial⟩ ?_
            first | exact ⟨false, rfl, fun h => by cases h⟩ | (refine ⟨true, rfl, fun _ => ⟨by omega, by omega, by omega, fun x hx => ?_⟩⟩; obtain ⟨j, hj, rfl⟩ := List.getElem_of_mem hx; exact hall j hj (by omega))
          ·
            have hall2 : ∀ j (h : j < d.to.length), j < k + 1 → d.to[j].length ≤ 40 := by
              intro j h hj
              by_cases e : j = k
              · subst e; omega
              · exact hall j h (by omega)
            refine K_skip ?_
            refine Q_block ?_
            refine Q_then ?_
            refine K_region ?_
            refine KV (R_move rfl) rfl ?_
            refine KV (R_add rfl rfl (by omega)) rfl ?_
            refine KV (R_assign rfl) rfl ?_
            refine K_nil ?_
            refine Q_nextD (k + 1) ⟨hk', hall2⟩ (by (try dsimp only); omega) ⟨rfl, trivial⟩ rfl rfl rfl
        ·
          have hk' : k = d.to.length := by omega
          refine K_exit ?_
          refine Q_then_exit ?_
          refine Q_then_exit ?_
          refine Q_block_exit ?_
          refine Q_then ?_
          refine K_seq ?_
          refine K_region ?_
          refine KV (R_assign rfl) rfl ?_
          refine K_nil ?_
          refine Q_then ?_
          refine K_ret ?_
          refine results_gen (rs := [.tmp 2]) (vs := [_]) rfl ⟨rfl, trivial⟩ ?_
          first | exact ⟨false, rfl, fun h => by cases h⟩ | (refine ⟨true, rfl, fun _ => ⟨by omega, by omega, by omega, fun x hx => ?_⟩⟩; obtain ⟨j, hj, rfl⟩ := List.getElem_of_mem hx; exact hall j hj (by omega))

theorem l33from_spec (d : Dt) (v1 v2 v3 : Value) (H : View) (hd : RepDt H d v1 v2 v3) : Sat Tryd.prog F28 #[.agg #[v1, v2, v3]] H (fun r _ => r = .agg #[v1, v2, v3]) := by
  obtain ⟨ua1, uc1x, rfl⟩ := hd.r.shape
  obtain ⟨ua2, uc2x, rfl⟩ := hd.a.shape
  obtain ⟨ua3, uc3x, rfl⟩ := hd.t.shape
  refine enterO (n := 10) (args := [.agg #[.slice ua1 d.ranks.length uc1x, .slice ua2 d.acc.length uc2x, .slice ua3 d.to.length uc3x]]) Tryd.func28 rfl rfl rfl fun w0 => ?_
  refine K_seq ?_
  refine K_region ?_
  refine KA (A_box rfl) rfl fun b1 => ?_
  refine KA (A_alloc z54) rfl fun b2 => ?_
  refine K_nil ?_
  refine Q_then ?_
  refine K_seq ?_
  refine K_region ?_
  refine KV (R_fieldAddr 0 fd63_0 rfl) rfl ?_
  refine KV (R_loadO ty25 1 rfl rfl rfl rfl (fun _ => rfl) rfl) rfl ?_
  refine KV (R_fieldAddr 1 fd63_1 rfl) rfl ?_
  refine KV (R_loadO ty52 1 rfl rfl rfl rfl (fun _ => rfl) rfl) rfl ?_
  refine KV (R_fieldAddr 2 fd63_2 rfl) rfl ?_
  refine KV (R_loadO ty44 1 rfl rfl rfl rfl (fun _ => rfl) rfl) rfl ?_
  refine KV (R_build z54 pl54 rfl rfl) rfl ?_
  refine K_store ty54 0 rfl rfl rfl rfl rfl rfl ?_
  refine K_nil ?_
  refine Q_then ?_
  refine K_ret ?_
  refine results_gen (rs := [.cell 2 54]) (vs := [_]) rfl ⟨⟨_, _, _, _, _, _, 0, rfl, rfl, ty54, (fun e => by cases e), rfl, rfl⟩, trivial⟩ ?_
  rfl

theorem short_spec (t : Tr) (H : View) (cs : List Value) (hb : t.size ≤ 1073741824) (hr : RepT H t cs) : Sat Tryd.prog F34 #[.agg cs.toArray] H (fun r _ => r = .bool (decide (t.size ≤ 9))) := by
  obtain ⟨x0, x1, x2, x3, rfl⟩ := hr.shape
  refine enterO (n := 6) (args := [.agg #[.int .i64 x0, .slice x1 x2 x3]]) Tryd.func34 rfl rfl rfl fun w0 => ?_
  refine K_seq ?_
  refine K_region ?_
  refine KA (A_box rfl) rfl fun b1 => ?_
  refine KV (R_assign rfl) rfl ?_
  refine K_nil ?_
  refine Q_then ?_
  refine K_seq ?_
  refine K_region ?_
  refine KV (R_loadO ty24 0 rfl rfl rfl rfl (fun e => by cases e) rfl) rfl ?_
  refine K_call c8 rfl rfl (size_spec t.size t H _ (Nat.le_refl _) (by omega) hr) ?_
  rintro _ V1 hv1 rfl
  refine KV (R_cmp rfl rfl rfl) rfl ?_
  refine KV (R_assign rfl) rfl ?_
  refine K_nil ?_
  refine Q_then ?_
  refine K_ret ?_
  refine results_gen (rs := [.tmp 2]) (vs := [_]) rfl ⟨rfl, trivial⟩ ?_
  refine congrArg Value.bool ?_
  simp only [decide_eq_decide]
  omega

theorem places_spec (d : Dt) (s : Nat) (v1 v2 v3 : Value) (H : View) (hd : RepDt H d v1 v2 v3) (hn : d.acc.length ≤ 512) (hs : s < d.ranks.length) (hr : 0 ≤ d.ranks[s] ∧ d.ranks[s] ≤ 2) : Sat Tryd.prog F66 #[.agg #[v1, v2, v3], .int .i64 (s : Int)] H (fun r _ => r = .int .i64 ((d.acc.length ^ d.ranks[s].toNat : Nat) : Int)) := by
  obtain ⟨ua1, uc1x, rfl⟩ := hd.r.shape
  obtain ⟨ua2, uc2x, rfl⟩ := hd.a.shape
  obtain ⟨ua3, uc3x, rfl⟩ := hd.t.shape
  obtain ⟨tb, to_, hte, hta⟩ := hd.r.get hs
  cases hte
  have hmul : d.acc.length * d.acc.length ≤ 512 * 512 := Nat.mul_le_mul hn hn
  have hmul2 : ((d.acc.length * d.acc.length : Nat) : Int) = (d.acc.length : Int) * (d.acc.length : Int) := Int.natCast_mul _ _
  refine enterO (n := 22) (args := [.agg #[.slice (some ⟨tb, to_, none⟩) d.ranks.length uc1x, .slice ua2 d.acc.length uc2x, .slice ua3 d.to.length uc3x], .int .i64 (s : Int)]) Tryd.func66 rfl rfl rfl fun w0 => ?_
  refine K_seq ?_
  refine K_region ?_
  refine KA (A_box rfl) rfl fun b2 => ?_
  refine KV (R_assign rfl) rfl ?_
  refine K_nil ?_
  refine Q_then ?_
  refine K_seq ?_
  refine K_region ?_
  refine KV (R_fieldAddr 1 fd63_1 rfl) rfl ?_
  refine KV (R_loadO ty52 0 rfl rfl rfl rfl (fun _ => rfl) rfl) rfl ?_
  refine KV (R_len sl52 rfl) rfl ?_
  refine KV (R_assign rfl) rfl ?_
  refine K_nil ?_
  refine Q_then ?_
  refine K_seq ?_
  refine K_seq ?_
  refine K_region ?_
  refine KV (R_fieldAddr 0 fd63_0 rfl) rfl ?_
  refine KV (R_loadO ty25 0 rfl rfl rfl rfl (fun _ => rfl) rfl) rfl ?_
  refine KV (R_move rfl) rfl ?_
  refine KV (R_indexN sl25 ty3 rfl rfl (by omega)) rfl ?_
  refine KV (R_loadH ty3 rfl (hta) rfl (fun _ => rfl) rfl) rfl ?_
  refine K_nil ?_
  refine Q_then ?_
  refine K_block ?_
  refine K_seq ?_
  refine K_region ?_
  refine KV (R_cmp rfl rfl rfl) rfl ?_
  refine KV (R_assign rfl) rfl ?_
  refine K_nil ?_
  refine Q_then ?_
  refine K_if rfl (fun h14 => ?_) (fun h14 => ?_)
  ·
    refine K_seq ?_
    refine K_region ?_
    refine KV (R_assign rfl) rfl ?_
    refine K_nil ?_
    refine Q_then ?_
    refine K_ret ?_
    refine Q_block_ret ?_
    refine Q_then_ret ?_
    refine results_gen (rs := [.tmp 4]) (vs := [_]) rfl ⟨rfl, trivial⟩ ?_
    have e : d.ranks[s].toNat = 0 := by omega
    rw [e]
    rfl
  ·
    refine K_seq ?_
    refine K_region ?_
    refine KV (R_cmp rfl rfl rfl) rfl ?_
    refine KV (R_assign rfl) rfl ?_
    refine K_nil ?_
    refine Q_then ?_
    refine K_if rfl (fun h16 => ?_) (fun h16 => ?_)
    ·
      refine K_seq ?_
      refine K_region ?_
      refine KV (R_move rfl) rfl ?_
      refine KV (R_assign rfl) rfl ?_
      refine K_nil ?_
      refine Q_then ?_
      refine K_ret ?_
      refine Q_block_ret ?_
      refine Q_then_ret ?_
      refine results_gen (rs := [.tmp 4]) (vs := [_]) rfl ⟨rfl, trivial⟩ ?_
      have e : d.ranks[s].toNat = 1 := by omega
      rw [e, Nat.pow_one]
      rfl
    ·
      refine K_skip ?_
      refine Q_block ?_
      refine Q_then ?_
      refine K_seq ?_
      refine K_region ?_
      refine KV (R_move rfl) rfl ?_
      refine KV (R_move rfl) rfl ?_
      refine KV (R_mul rfl rfl (by omega)) rfl ?_
      refine KV (R_assign rfl) rfl ?_
      refine K_nil ?_
      refine Q_then ?_
      refine K_ret ?_
      refine results_gen (rs := [.tmp 4]) (vs := [_]) rfl ⟨rfl, trivial⟩ ?_
      have e : d.ranks[s].toNat = 2 := by omega
      rw [e, Nat.pow_two, hmul2]
      rfl

theorem wide_spec (m n : Nat) (hm : m ≤ 2) (hn : n ≤ 512) (H : View) : Sat Tryd.prog F85 #[.int .i64 (m : Int), .int .i64 (n : Int)] H (fun r _ => r = .int .i64 ((n ^ m : Nat) : Int)) := by
  refine enterO (n := 14) (args := [.int .i64 (m : Int), .int .i64 (n : Int)]) Tryd.func85 rfl rfl rfl fun w0 => ?_
  refine K_seq ?_
  refine K_region ?_
  refine KV (R_assign rfl) rfl ?_
  refine K_nil ?_
  refine Q_then ?_
  refine K_seq ?_
  refine K_region ?_
  refine KV (R_assign rfl) rfl ?_
  refine K_nil ?_
  refine Q_then ?_
  refine K_seq ?_
  refine K_seq ?_
  refine K_region ?_
  refine KV (R_move rfl) rfl ?_
  refine KV (R_move rfl) rfl ?_
  refine K_nil ?_
  refine Q_then ?_
  refine K_block ?_
  refine K_loopD (G := Nat) [5, 7, 8, 9, 10, 11, 12] (fun g => [(7, .int .i64 (g : Int)), (5, .int .i64 ((n ^ g : Nat) : Int))]) (fun hl g => hl) (fun g => H) (fun g => (g ≤ m)) (fun g => m - g) 0 (Nat.zero_le _) ⟨rfl, rfl, trivial⟩ (by simp only [args0, Nat.reduceAdd, del, memN, beqN, Nat.reduceBEq, cond_true, cond_false]; rfl) rfl rfl ?_
  rintro k hk
  try dsimp only at hk
  dsimp only [List.set, List.cons_append, List.nil_append]
  refine K_seq ?_
  refine K_region ?_
  refine KV (R_cmp rfl rfl rfl) rfl ?_
  refine K_nil ?_
  refine Q_then ?_
  refine K_seq ?_
  refine K_if rfl (fun h8 => ?_) (fun h8 => ?_)
  ·
    have hk' : k < m := by omega
    have hp : n ^ k * n ≤ 512 * 512 := by
      refine Nat.mul_le_mul ?_ hn
      rcases Nat.eq_zero_or_pos k with e | e
      · subst e; simp
      · have : k = 1 := by omega
        subst this; simpa using hn
    have hp2 : ((n ^ k * n : Nat) : Int) = ((n ^ k : Nat) : Int) * (n : Int) := Int.natCast_mul _ _
    refine K_skip ?_
    refine Q_then ?_
    refine K_seq ?_
    refine K_block ?_
    refine K_region ?_
    refine KV (R_move rfl) rfl ?_
    refine KV (R_move rfl) rfl ?_
    refine KV (R_mul rfl rfl (by omega)) rfl ?_
    refine KV (R_assign rfl) rfl ?_
    refine K_nil ?_
    refine Q_block ?_
    refine Q_then ?_
    refine K_region ?_
    refine KV (R_add rfl rfl (by omega)) rfl ?_
    refine KV (R_move rfl) rfl ?_
    refine K_nil ?_
    refine Q_nextD (k + 1) hk' (by (try dsimp only); omega) ⟨rfl, congrArg (fun z => some (Value.int .i64 z)) (by rw [Nat.pow_succ]; exact (Int.natCast_mul _ _).symm), trivial⟩ rfl rfl rfl
  ·
    have hk' : k = m := by omega
    subst hk'
    refine K_exit ?_
    refine Q_then_exit ?_
    refine Q_then_exit ?_
    refine Q_block_exit ?_
    refine Q_then ?_
    refine K_seq ?_
    refine K_region ?_
    refine KV (R_move rfl) rfl ?_
    refine KV (R_assign rfl) rfl ?_
    refine K_nil ?_
    refine Q_then ?_
    refine K_ret ?_
    refine results_gen (rs := [.tmp 4]) (vs := [_]) rfl ⟨rfl, trivial⟩ ?_
    rfl

theorem dstate_spec (d : Dt) (q : Int) (v1 v2 v3 : Value) (H : View) (hd : RepDt H d v1 v2 v3) : Sat Tryd.prog F88 #[.agg #[v1, v2, v3], .int .i64 q] H (fun r _ => r = .bool (!badQ d.acc.length q)) := by
  obtain ⟨ua1, uc1x, rfl⟩ := hd.r.shape
  obtain ⟨ua2, uc2x, rfl⟩ := hd.a.shape
  obtain ⟨ua3, uc3x, rfl⟩ := hd.t.shape
  refine enterO (n := 14) (args := [.agg #[.slice ua1 d.ranks.length uc1x, .slice ua2 d.acc.length uc2x, .slice ua3 d.to.length uc3x], .int .i64 q]) Tryd.func88 rfl rfl rfl fun w0 => ?_
  refine K_seq ?_
  refine K_region ?_
  refine KA (A_box rfl) rfl fun b2 => ?_
  refine KV (R_assign rfl) rfl ?_
  refine K_nil ?_
  refine Q_then ?_
  refine K_seq ?_
  refine K_region ?_
  refine KV (R_move rfl) rfl ?_
  refine KV (R_cmp rfl rfl rfl) rfl ?_
  refine KV (R_move rfl) rfl ?_
  refine K_split ?_ ?_
  ·
    intro h7
    refine K_gyes rfl rfl ?_
    refine KV (R_move rfl) rfl ?_
    refine K_gyes rfl rfl ?_
    refine KV (R_fieldAddr 1 fd54_1 rfl) rfl ?_
    refine K_gyes rfl rfl ?_
    refine KV (R_loadO ty52 0 rfl rfl rfl rfl (fun _ => rfl) rfl) rfl ?_
    refine K_gyes rfl rfl ?_
    refine KV (R_len sl52 rfl) rfl ?_
    refine K_gyes rfl rfl ?_
    refine KV (R_cmp rfl rfl rfl) rfl ?_
    refine KV (R_pickT rfl rfl) rfl ?_
    refine KV (R_assign rfl) rfl ?_
    refine K_nil ?_
    refine Q_then ?_
    refine K_ret ?_
    refine results_gen (rs := [.tmp 4]) (vs := [_]) rfl ⟨rfl, trivial⟩ ?_
    simp [tupV, badQ, h7]
  ·
    intro h7
    refine K_gno rfl rfl rfl rfl ?_
    refine K_gno rfl rfl rfl rfl ?_
    refine K_gno rfl rfl rfl rfl ?_
    refine K_gno rfl rfl rfl rfl ?_
    refine K_gno rfl rfl rfl rfl ?_
    refine KV (R_pickF rfl rfl) rfl ?_
    refine KV (R_assign rfl) rfl ?_
    refine K_nil ?_
    refine Q_then ?_
    refine K_ret ?_
    refine results_gen (rs := [.tmp 4]) (vs := [_]) rfl ⟨rfl, trivial⟩ ?_
    simp [tupV, badQ, h7]

theorem dbad_spec (d : Dt) (b : Nat) (q : Int) (v1 v2 v3 : Value) (H : View) (hd : RepDt H d v1 v2 v3) (hb : At H b 0 [v1, v2, v3]) : Sat Tryd.prog F87 #[.int .i64 q, ptr b] H (fun r _ => r = .bool (badQ d.acc.length q)) := by
  refine enterO (n := 8) (args := [.int .i64 q, ptr b]) Tryd.func87 rfl rfl rfl fun w0 => ?_
  refine K_seq ?_
  refine K_region ?_
  refine KV (R_assign rfl) rfl ?_
  refine K_nil ?_
  refine Q_then ?_
  refine K_seq ?_
  refine K_region ?_
  refine KV (R_loadH ty54 rfl (hb) rfl (fun e => by cases e) rfl) rfl ?_
  refine KV (R_move rfl) rfl ?_
  refine K_call c88 rfl rfl (dstate_spec d q v1 v2 v3 H hd) ?_
  rintro _ V' hle rfl
  refine KV (R_not rfl) rfl ?_
  refine KV (R_assign rfl) rfl ?_
  refine K_nil ?_
  refine Q_then ?_
  refine K_ret ?_
  refine results_gen (rs := [.tmp 3]) (vs := [_]) rfl ⟨rfl, trivial⟩ ?_
  simp [tupV]

theorem dcheck_spec (d : Dt) (v1 v2 v3 : Value) (H : View) (hd : RepDt H d v1 v2 v3) (hb : d.ranks.length ≤ 1048576 ∧ d.acc.length ≤ 1048576 ∧ d.to.length ≤ 1048576 ∧ ∀ x ∈ d.to, x.length ≤ 1048576) : Sat Tryd.prog F63 #[.agg #[v1, v2, v3]] H (fun r _ => r = .int .i64 (dtErr d)) := by
  obtain ⟨hb1, hb2, hb3, hb4⟩ := hb
  obtain ⟨ua1, uc1x, rfl⟩ := hd.r.shape
  obtain ⟨ua2, uc2x, rfl⟩ := hd.a.shape
  obtain ⟨ua3, uc3x, rfl⟩ := hd.t.shape
  refine enterO (n := 61) (args := [.agg #[.slice ua1 d.ranks.length uc1x, .slice ua2 d.acc.length uc2x, .slice ua3 d.to.length uc3x]]) Tryd.func63 rfl rfl rfl fun w0 => ?_
  refine K_seq ?_
  refine K_region ?_
  refine KA (A_box rfl) rfl fun b1 => ?_
  refine KV (R_assign rfl) rfl ?_
  refine K_nil ?_
  refine KQ_pubblk (by intro x hx; simp [feet] at hx) fun V0 hle0 hb1_ => ?_
  have hA := At.of hb1_
  have hA0 := hA.one (j := 0) rfl
  have hA1 := hA.one (j := 1) rfl
  have hA2 := hA.one (j := 2) rfl
  refine Q_then ?_
  refine K_seq ?_
  refine K_seq ?_
  refine K_region ?_
  refine KV (R_fieldAddr 0 fd54_0 rfl) rfl ?_
  refine KV (R_loadH ty47 rfl (hA0) rfl (fun _ => rfl) rfl) rfl ?_
  refine K_call c72 rfl rfl (acheck_spec d.ranks _ V0 (hd.r.mono hle0) (by omega)) ?_
  rintro _ V1 hle1 rfl
  refine KV (R_assign rfl) rfl ?_
  refine K_nil ?_
  refine Q_then ?_
  refine K_seq ?_
  refine K_region ?_
  refine KV (R_move rfl) rfl ?_
  refine KV (R_cmp rfl rfl rfl) rfl ?_
  refine K_nil ?_
  refine Q_then ?_
  refine K_if rfl (fun h13 => ?_) (fun h13 => ?_)
  ·
    refine K_seq ?_
    refine K_region ?_
    refine KV (R_move rfl) rfl ?_
    refine KV (R_assign rfl) rfl ?_
    refine K_nil ?_
    refine Q_then ?_
    refine K_ret ?_
    refine Q_then_ret ?_
    refine results_gen (rs := [.tmp 2]) (vs := [_]) rfl ⟨rfl, trivial⟩ ?_
    simp only [tupV, dtErr]
    rw [if_pos h13]
  ·
    have hrks := (ranksErr_ok (Decidable.not_not.1 h13)).2
    refine K_skip ?_
    refine Q_then ?_
    refine K_seq ?_
    refine K_region ?_
    refine KV (R_fieldAddr 1 fd54_1 rfl) rfl ?_
    refine KV (R_loadH ty52 rfl (hA1.mono hle1) rfl (fun _ => rfl) rfl) rfl ?_
    refine KV (R_len sl52 rfl) rfl ?_
    refine KV (R_assign rfl) rfl ?_
    refine K_nil ?_
    refine Q_then ?_
    refine K_seq ?_
    refine K_seq ?_
    refine K_region ?_
    refine KV (R_move rfl) rfl ?_
    refine KV (R_cmp rfl rfl rfl) rfl ?_
    refine KV (R_move rfl) rfl ?_
    refine K_split ?_ ?_
    ·
      intro h20
      refine K_gno rfl rfl rfl rfl ?_
      refine K_gno rfl rfl rfl rfl ?_
      refine KV (R_pickT rfl rfl) rfl ?_
      refine K_nil ?_
      refine Q_then ?_
      refine K_ifT rfl ?_
      refine K_seq ?_
      refine K_region ?_
      refine KV (R_assign rfl) rfl ?_
      refine K_nil ?_
      refine Q_then ?_
      refine K_ret ?_
      refine Q_then_ret ?_
      refine results_gen (rs := [.tmp 2]) (vs := [_]) rfl ⟨rfl, trivial⟩ ?_
      simp only [tupV, dtErr]
      rw [if_neg h13, if_pos (by omega)]
    ·
      intro h20
      refine K_gyes rfl rfl ?_
      refine KV (R_move rfl) rfl ?_
      refine K_gyes rfl rfl ?_
      refine KV (R_cmp rfl rfl rfl) rfl ?_
      refine KV (R_pickF rfl rfl) rfl ?_
      refine K_nil ?_
      refine Q_then ?_
      refine K_if rfl (fun h23 => ?_) (fun h23 => ?_)
      ·
        refine K_seq ?_
        refine K_region ?_
        refine KV (R_assign rfl) rfl ?_
        refine K_nil ?_
        refine Q_then ?_
        refine K_ret ?_
        refine Q_then_ret ?_
        refine results_gen (rs := [.tmp 2]) (vs := [_]) rfl ⟨rfl, trivial⟩ ?_
        simp only [tupV, dtErr]
        rw [if_neg h13, if_pos (by omega)]
      ·
        refine K_skip ?_
        refine Q_then ?_
        refine K_seq ?_
        refine K_seq ?_
        refine K_region ?_
        refine KV (R_fieldAddr 2 fd54_2 rfl) rfl ?_
        refine KV (R_loadH ty44 rfl (hA2.mono hle1) rfl (fun _ => rfl) rfl) rfl ?_
        refine KV (R_len sl44 rfl) rfl ?_
        refine KV (R_fieldAddr 0 fd54_0 rfl) rfl ?_
        refine KV (R_loadH ty47 rfl (hA0.mono hle1) rfl (fun _ => rfl) rfl) rfl ?_
        refine KV (R_len sl47 rfl) rfl ?_
        refine KV (R_cmp rfl rfl rfl) rfl ?_
        refine K_nil ?_
        refine Q_then ?_
        refine K_if rfl (fun h30 => ?_) (fun h30 => ?_)
        ·
          refine K_seq ?_
          refine K_region ?_
          refine KV (R_assign rfl) rfl ?_
          refine K_nil ?_
          refine Q_then ?_
          refine K_ret ?_
          refine Q_then_ret ?_
          refine results_gen (rs := [.tmp 2]) (vs := [_]) rfl ⟨rfl, trivial⟩ ?_
          simp only [tupV, dtErr]
          rw [if_neg h13, if_neg (by omega), if_pos h30]
        ·
          refine K_skip ?_
          refine Q_then ?_
          refine K_seq ?_
          refine K_seq ?_
          refine K_region ?_
          refine KV (R_fieldAddr 2 fd54_2 rfl) rfl ?_
          refine KV (R_loadH ty44 rfl (hA2.mono hle1) rfl (fun _ => rfl) rfl) rfl ?_
          refine KV (R_len sl44 rfl) rfl ?_
          refine KV (R_move rfl) rfl ?_
          refine K_nil ?_
          refine Q_then ?_
          refine K_block ?_
          refine K_loopD (G := Nat × View) [2, 5, 6, 34, 35, 36, 37, 38, 39, 40, 41, 42, 43, 44, 45, 46, 47, 48, 49] (fun g => [(34, .int .i64 (g.1 : Int))]) (fun hl g => hl) (fun g => g.2) (fun g => (g.1 ≤ d.to.length) ∧ (VLe V0 g.2) ∧ (∀ j (h : j < d.to.length), j < g.1 → (d.to.getD j []).length = d.acc.length ^ (d.ranks.getD j 0).toNat)) (fun g => d.to.length - g.1) (0, V1) ⟨Nat.zero_le _, hle1, fun j _ h => by simp at h⟩ ⟨rfl, trivial⟩ (by simp only [args0, Nat.reduceAdd, del, memN, beqN, Nat.reduceBEq, cond_true, cond_false]; rfl) rfl rfl ?_
          rintro ⟨s, V⟩ ⟨hs, hV, hwid⟩
          dsimp only at hs hV hwid
          dsimp only [List.set, List.cons_append, List.nil_append]
          refine K_seq ?_
          refine K_region ?_
          refine KV (R_cmp rfl rfl rfl) rfl ?_
          refine K_nil ?_
          refine Q_then ?_
          refine K_seq ?_
          refine K_if rfl (fun h35 => ?_) (fun h35 => ?_)
          ·
            have hs' : s < d.to.length := by omega
            obtain ⟨tb, to_, ea, ecp, hte, hta, hes⟩ := (hd.mono (hle0.trans hV)).t.get hs'
            cases hte
            have hsm : s < d.ranks.length := by omega
            obtain ⟨rb, ro, hre, hrk⟩ := (hd.mono (hle0.trans hV)).r.get hsm
            cases hre
            have hrr := hrks s hsm
            have hgs : d.to.getD s [] = d.to[s] := by simp [List.getD, hs']
            have hgr : d.ranks.getD s 0 = d.ranks[s] := by simp [List.getD, hsm]
            refine K_skip ?_
            refine Q_then ?_
            refine K_seq ?_
            refine K_block ?_
            refine K_seq ?_
            refine K_region ?_
            refine KV (R_move rfl) rfl ?_
            refine KV (R_indexN sl44 ty25 rfl rfl (by omega)) rfl ?_
            refine KV (R_loadH ty25 rfl (hta) rfl (fun _ => rfl) rfl) rfl ?_
            refine KV (R_assign rfl) rfl ?_
            refine KV (R_assign rfl) rfl ?_
            refine K_nil ?_
            refine Q_then ?_
            refine K_seq ?_
            refine K_region ?_
            refine KV (R_move rfl) rfl ?_
            refine KV (R_len sl25 rfl) rfl ?_
            refine KV (R_fieldAddr 0 fd54_0 rfl) rfl ?_
            refine KV (R_loadH ty47 rfl (hA0.mono hV) rfl (fun _ => rfl) rfl) rfl ?_
            refine KV (R_move rfl) rfl ?_
            refine KV (R_indexN sl47 ty3 rfl rfl (by omega)) rfl ?_
            refine KV (R_loadH ty3 rfl (hrk) rfl (fun _ => rfl) rfl) rfl ?_
            refine KV (R_move rfl) rfl ?_
            rw [show d.ranks[s] = ((d.ranks[s].toNat : Nat) : Int) by omega]
            refine K_call c85 rfl rfl (wide_spec d.ranks[s].toNat d.acc.length (by omega) (by omega) V) ?_
            rintro _ V2 hv2 rfl
            refine KV (R_cmp rfl rfl rfl) rfl ?_
            refine K_nil ?_
            refine Q_then ?_
            refine K_if rfl (fun h48 => ?_) (fun h48 => ?_)
            ·
              have hwb : widthBad d = true := by
                unfold widthBad
                rw [List.any_eq_true]
                refine ⟨s, List.mem_range.2 hs', ?_⟩
                simp only [decide_eq_true_eq, hgs, hgr]
                omega
              refine K_seq ?_
              refine K_region ?_
              refine KV (R_assign rfl) rfl ?_
              refine K_nil ?_
              refine Q_then ?_
              refine K_ret ?_
              refine Q_block_ret ?_
              refine Q_then_ret ?_
              refine Q_then_ret ?_
              refine Q_block_ret ?_
              refine Q_then_ret ?_
              refine results_gen (rs := [.tmp 2]) (vs := [_]) rfl ⟨rfl, trivial⟩ ?_
              simp only [tupV, dtErr]
              rw [if_neg h13, if_neg (by omega), if_neg h30, if_pos hwb]
            ·
              have hwid2 : ∀ j (h : j < d.to.length), j < s + 1 → (d.to.getD j []).length = d.acc.length ^ (d.ranks.getD j 0).toNat := by
                intro j h hj
                by_cases e : j = s
                · subst e; rw [hgs, hgr]; omega
                · exact hwid j h (by omega)
              refine K_skip ?_
              refine Q_block ?_
              refine Q_then ?_
              refine K_region ?_
              refine KV (R_add rfl rfl (by omega)) rfl ?_
              refine KV (R_move rfl) rfl ?_
              refine K_nil ?_
              refine Q_nextD (s + 1, V2) ⟨hs', hV.trans hv2, hwid2⟩ (by (try dsimp only); omega) ⟨rfl, trivial⟩ rfl rfl rfl
          ·
            have hwb : widthBad d = false := by
              unfold widthBad
              rw [List.any_eq_false]
              intro s hs
              have hs2 := List.mem_range.1 hs
              have := hwid s hs2 (by omega)
              simpa using this
            refine K_exit ?_
            refine Q_then_exit ?_
            refine Q_then_exit ?_
            refine Q_block_exit ?_
            refine Q_then ?_
            refine K_seq ?_
            refine K_seq ?_
            refine K_region ?_
            refine KV (R_fieldAddr 2 fd54_2 rfl) rfl ?_
            refine KV (R_loadH ty44 rfl (hA2.mono hV) rfl (fun _ => rfl) rfl) rfl ?_
            refine KV (R_len sl44 rfl) rfl ?_
            refine KV (R_move rfl) rfl ?_
            refine K_nil ?_
            refine Q_then ?_
            refine K_block ?_
            refine K_loopD (G := Nat × View) [2, 8, 53, 54, 55, 56, 57, 58, 59, 60] (fun g => [(53, .int .i64 (g.1 : Int))]) (fun hl g => hl) (fun g => g.2) (fun g => (g.1 ≤ d.to.length) ∧ (VLe V0 g.2) ∧ (∀ j (h : j < d.to.length), j < g.1 → d.to[j].any (badQ d.acc.length) = false)) (fun g => d.to.length - g.1) (0, V) ⟨Nat.zero_le _, hV, fun j _ h => by simp at h⟩ ⟨rfl, trivial⟩ (by simp only [args0, Nat.reduceAdd, del, memN, beqN, Nat.reduceBEq, cond_true, cond_false]; rfl) rfl rfl ?_
            rintro ⟨s, V⟩ ⟨hs, hV, hent⟩
            dsimp only at hs hV hent
            dsimp only [List.set, List.cons_append, List.nil_append]
            refine K_seq ?_
            refine K_region ?_
            refine KV (R_cmp rfl rfl rfl) rfl ?_
            refine K_nil ?_
            refine Q_then ?_
            refine K_seq ?_
            refine K_if rfl (fun h54 => ?_) (fun h54 => ?_)
            ·
              have hs' : s < d.to.length := by omega
              obtain ⟨tb, to_, ea, ecp, hte, hta, hes⟩ := (hd.mono (hle0.trans hV)).t.get hs'
              cases hte
              refine K_skip ?_
              refine Q_then ?_
              refine K_seq ?_
              refine K_block ?_
              refine K_seq ?_
              refine K_region ?_
              refine KV (R_indexN sl44 ty25 rfl rfl (by omega)) rfl ?_
              refine KV (R_loadH ty25 rfl (hta) rfl (fun _ => rfl) rfl) rfl ?_
              refine KV (R_assign rfl) rfl ?_
              refine K_nil ?_
              refine Q_then ?_
              refine K_seq ?_
              refine K_region ?_
              refine KV (R_move rfl) rfl ?_
              refine KV (R_makeFunc rfl rfl) rfl ?_
              refine K_call c86 rfl rfl (sicon_spec F87 [ptr b1] (badQ d.acc.length) d.to[s] _ V hes (Nat.le_trans (hb4 _ (List.getElem_mem hs')) (by decide)) c87 (fun x W _ hW => dbad_spec d b1 x _ _ _ W (hd.mono (hle0.trans (hV.trans hW))) (hA.mono (hV.trans hW)))) ?_
              rintro _ V2 hle2 rfl
              refine K_nil ?_
              refine Q_then ?_
              refine K_ifB rfl (fun h59 => ?_) (fun h59 => ?_)
              ·
                have heb : entryBad d = true := List.any_eq_true.2 ⟨_, List.getElem_mem hs', h59⟩
                refine K_seq ?_
                refine K_region ?_
                refine KV (R_assign rfl) rfl ?_
                refine K_nil ?_
                refine Q_then ?_
                refine K_ret ?_
                refine Q_block_ret ?_
                refine Q_then_ret ?_
                refine Q_then_ret ?_
                refine Q_block_ret ?_
                refine Q_then_ret ?_
                refine results_gen (rs := [.tmp 2]) (vs := [_]) rfl ⟨rfl, trivial⟩ ?_
                simp only [tupV, dtErr]
                rw [if_neg h13, if_neg (by omega), if_neg h30, hwb, heb]
                rfl
              ·
                have hent2 : ∀ j (h : j < d.to.length), j < s + 1 → d.to[j].any (badQ d.acc.length) = false := by
                  intro j h hj
                  by_cases e : j = s
                  · subst e; exact h59
                  · exact hent j h (by omega)
                refine K_skip ?_
                refine Q_block ?_
                refine Q_then ?_
                refine K_region ?_
                refine KV (R_add rfl rfl (by omega)) rfl ?_
                refine KV (R_move rfl) rfl ?_
                refine K_nil ?_
                refine Q_nextD (s + 1, V2) ⟨hs', hV.trans hle2, hent2⟩ (by (try dsimp only); omega) ⟨rfl, trivial⟩ rfl rfl rfl
            ·
              have heb : entryBad d = false := by
                unfold entryBad
                rw [List.any_eq_false]
                intro x hx
                obtain ⟨j, hj, rfl⟩ := List.getElem_of_mem hx
                simp [hent j hj (by omega)]
              refine K_exit ?_
              refine Q_then_exit ?_
              refine Q_then_exit ?_
              refine Q_block_exit ?_
              refine Q_then ?_
              refine K_seq ?_
              refine K_region ?_
              refine KV (R_assign rfl) rfl ?_
              refine K_nil ?_
              refine Q_then ?_
              refine K_ret ?_
              refine results_gen (rs := [.tmp 2]) (vs := [_]) rfl ⟨rfl, trivial⟩ ?_
              simp only [tupV, dtErr]
              rw [if_neg h13, if_neg (by omega), if_neg h30, hwb, heb]
              rfl
end Go.Proofs.X

namespace Go.Proofs.X
open Go Pal Go.Proofs
attribute [local irreducible] Pal.KO Pal.KC Pal.KQ Pal.KD
theorem c66 : callable Tryd.prog F66 = true := by kernel_rfl
theorem c75 : callable Tryd.prog F75 = true := by kernel_rfl
theorem c114 : callable Tryd.prog F114 = true := by kernel_rfl
theorem c115 : callable Tryd.prog F115 = true := by kernel_rfl
theorem c118 : callable Tryd.prog F118 = true := by kernel_rfl
theorem c119 : callable Tryd.prog F119 = true := by kernel_rfl
theorem rdcheck_spec (d : Dt) (v1 v2 v3 : Value) (H : View) (hd : RepDt H d v1 v2 v3) (hb : d.ranks.length ≤ 1048576 ∧ d.acc.length ≤ 1048576 ∧ d.to.length ≤ 1048576 ∧ ∀ x ∈ d.to, x.length ≤ 1048576) : Sat Tryd.prog F29 #[.agg #[v1, v2, v3]] H (fun r _ => r = .int .i64 (dtErr d)) := by
  obtain ⟨hb1, hb2, hb3, hb4⟩ := hb
  obtain ⟨ua1, uc1x, rfl⟩ := hd.r.shape
  obtain ⟨ua2, uc2x, rfl⟩ := hd.a.shape
  obtain ⟨ua3, uc3x, rfl⟩ := hd.t.shape
  refine enterO (n := 85) (args := [.agg #[.slice ua1 d.ranks.length uc1x, .slice ua2 d.acc.length uc2x, .slice ua3 d.to.length uc3x]]) Tryd.func29 rfl rfl rfl fun w0 => ?_
  refine K_seq ?_
  refine K_region ?_
  refine KA (A_box rfl) rfl fun b1 => ?_
  refine KV (R_assign rfl) rfl ?_
  refine K_nil ?_
  refine Q_then ?_
  refine K_seq ?_
  refine K_seq ?_
  refine K_region ?_
  refine KV (R_fieldAddr 0 fd63_0 rfl) rfl ?_
  refine KV (R_loadO ty25 0 rfl rfl rfl rfl (fun _ => rfl) rfl) rfl ?_
  refine K_call c36 rfl rfl (rcheck31_spec d.ranks _ H hd.r (by omega)) ?_
  rintro _ V1 hle1 rfl
  refine KV (R_assign rfl) rfl ?_
  refine K_nil ?_
  refine Q_then ?_
  refine K_seq ?_
  refine K_region ?_
  refine KV (R_move rfl) rfl ?_
  refine KV (R_cmp rfl rfl rfl) rfl ?_
  refine K_nil ?_
  refine Q_then ?_
  refine K_if rfl (fun h12 => ?_) (fun h12 => ?_)
  ·
    refine K_seq ?_
    refine K_region ?_
    refine KV (R_move rfl) rfl ?_
    refine KV (R_assign rfl) rfl ?_
    refine K_nil ?_
    refine Q_then ?_
    refine K_ret ?_
    refine Q_then_ret ?_
    refine results_gen (rs := [.tmp 2]) (vs := [_]) rfl ⟨rfl, trivial⟩ ?_
    simp only [tupV, dtErr]
    rw [if_pos h12]
  ·
    have hrks := (ranksErr_ok (Decidable.not_not.1 h12)).2
    refine K_skip ?_
    refine Q_then ?_
    refine K_seq ?_
    refine K_region ?_
    refine KV (R_fieldAddr 1 fd63_1 rfl) rfl ?_
    refine KV (R_loadO ty52 0 rfl rfl rfl rfl (fun _ => rfl) rfl) rfl ?_
    refine KV (R_len sl52 rfl) rfl ?_
    refine KV (R_assign rfl) rfl ?_
    refine K_nil ?_
    refine Q_then ?_
    refine K_seq ?_
    refine K_seq ?_
    refine K_region ?_
    refine KV (R_move rfl) rfl ?_
    refine KV (R_cmp rfl rfl rfl) rfl ?_
    refine KV (R_move rfl) rfl ?_
    refine K_split ?_ ?_
    ·
      intro h19
      refine K_gno rfl rfl rfl rfl ?_
      refine K_gno rfl rfl rfl rfl ?_
      refine KV (R_pickT rfl rfl) rfl ?_
      refine K_nil ?_
      refine Q_then ?_
      refine K_ifT rfl ?_
      refine K_seq ?_
      refine K_region ?_
      refine KV (R_assign rfl) rfl ?_
      refine K_nil ?_
      refine Q_then ?_
      refine K_ret ?_
      refine Q_then_ret ?_
      refine results_gen (rs := [.tmp 2]) (vs := [_]) rfl ⟨rfl, trivial⟩ ?_
      simp only [tupV, dtErr]
      rw [if_neg h12, if_pos (by omega)]
    ·
      intro h19
      refine K_gyes rfl rfl ?_
      refine KV (R_move rfl) rfl ?_
      refine K_gyes rfl rfl ?_
      refine KV (R_cmp rfl rfl rfl) rfl ?_
      refine KV (R_pickF rfl rfl) rfl ?_
      refine K_nil ?_
      refine Q_then ?_
      refine K_if rfl (fun h22 => ?_) (fun h22 => ?_)
      ·
        refine K_seq ?_
        refine K_region ?_
        refine KV (R_assign rfl) rfl ?_
        refine K_nil ?_
        refine Q_then ?_
        refine K_ret ?_
        refine Q_then_ret ?_
        refine results_gen (rs := [.tmp 2]) (vs := [_]) rfl ⟨rfl, trivial⟩ ?_
        simp only [tupV, dtErr]
        rw [if_neg h12, if_pos (by omega)]
      ·
        refine K_skip ?_
        refine Q_then ?_
        refine K_seq ?_
        refine K_seq ?_
        refine K_region ?_
        refine KV (R_fieldAddr 2 fd63_2 rfl) rfl ?_
        refine KV (R_loadO ty44 0 rfl rfl rfl rfl (fun _ => rfl) rfl) rfl ?_
        refine KV (R_len sl44 rfl) rfl ?_
        refine KV (R_fieldAddr 0 fd63_0 rfl) rfl ?_
        refine KV (R_loadO ty25 0 rfl rfl rfl rfl (fun _ => rfl) rfl) rfl ?_
        refine KV (R_len sl25 rfl) rfl ?_
        refine KV (R_cmp rfl rfl rfl) rfl ?_
        refine K_nil ?_
        refine Q_then ?_
        refine K_if rfl (fun h29 => ?_) (fun h29 => ?_)
        ·
          refine K_seq ?_
          refine K_region ?_
          refine KV (R_assign rfl) rfl ?_
          refine K_nil ?_
          refine Q_then ?_
          refine K_ret ?_
          refine Q_then_ret ?_
          refine results_gen (rs := [.tmp 2]) (vs := [_]) rfl ⟨rfl, trivial⟩ ?_
          simp only [tupV, dtErr]
          rw [if_neg h12, if_neg (by omega), if_pos h29]
        ·
          refine K_skip ?_
          refine Q_then ?_
          refine K_seq ?_
          refine K_seq ?_
          refine K_region ?_
          refine KV (R_assign rfl) rfl ?_
          refine K_nil ?_
          refine Q_then ?_
          refine K_block ?_
          refine K_loopD (G := Nat × View) [2, 5, 30, 31, 32, 33, 34, 35, 36, 37, 38, 39, 40, 41, 42, 43, 44, 45, 46] (fun g => [(5, .int .i64 (g.1 : Int))]) (fun hl g => hl) (fun g => g.2) (fun g => (g.1 ≤ d.to.length) ∧ (VLe H g.2) ∧ (∀ j (h : j < d.to.length), j < g.1 → (d.to.getD j []).length = d.acc.length ^ (d.ranks.getD j 0).toNat)) (fun g => d.to.length - g.1) (0, V1) ⟨Nat.zero_le _, hle1, fun j _ h => by simp at h⟩ ⟨rfl, trivial⟩ (by simp only [args0, Nat.reduceAdd, del, memN, beqN, Nat.reduceBEq, cond_true, cond_false]; rfl) rfl rfl ?_
          rintro ⟨s, V⟩ ⟨hs, hV, hwid⟩
          dsimp only at hs hV hwid
          dsimp only [List.set, List.cons_append, List.nil_append]
          refine K_seq ?_
          refine K_seq ?_
          refine K_region ?_
          refine KV (R_move rfl) rfl ?_
          refine KV (R_fieldAddr 2 fd63_2 rfl) rfl ?_
          refine KV (R_loadO ty44 0 rfl rfl rfl rfl (fun _ => rfl) rfl) rfl ?_
          refine KV (R_len sl44 rfl) rfl ?_
          refine KV (R_cmp rfl rfl rfl) rfl ?_
          refine K_nil ?_
          refine Q_then ?_
          refine K_if rfl (fun h34 => ?_) (fun h34 => ?_)
          ·
            have hs' : s < d.to.length := by omega
            obtain ⟨tb, to_, ea, ecp, hte, hta, hes⟩ := (hd.mono hV).t.get hs'
            cases hte
            have hsm : s < d.ranks.length := by omega
            obtain ⟨rb, ro, hre, hrk⟩ := (hd.mono hV).r.get hsm
            cases hre
            have hrr := hrks s hsm
            have hgs : d.to.getD s [] = d.to[s] := by simp [List.getD, hs']
            have hgr : d.ranks.getD s 0 = d.ranks[s] := by simp [List.getD, hsm]
            refine K_skip ?_
            refine Q_then ?_
            refine K_seq ?_
            refine K_block ?_
            refine K_seq ?_
            refine K_regionD (fin := false) (R := [0, 1, 2, 3, 4, 5, 6, 7, 8, 9]) (by kernel_rfl) mixed (.cons_cons _ (List.nil_sublist _)) ?_
            refine D_val rfl rfl rfl (R_fieldAddr 2 fd63_2 rfl) ?_
            refine D_val rfl rfl rfl (R_loadO ty44 0 rfl rfl rfl rfl (fun _ => rfl) rfl) ?_
            refine D_val rfl rfl rfl (R_move rfl) ?_
            refine D_val rfl rfl rfl (R_indexN sl44 ty25 rfl rfl (by omega)) ?_
            refine D_val rfl rfl rfl (R_loadH ty25 rfl (hta) rfl (fun _ => rfl) rfl) ?_
            refine D_val rfl rfl rfl (R_len sl25 rfl) ?_
            refine D_val rfl rfl rfl (R_loadO ty63 0 rfl rfl rfl rfl (fun e => by cases e) rfl) ?_
            refine D_val rfl rfl rfl (R_move rfl) ?_
            refine D_call rfl rfl c66 rfl ⟨⟨0, rfl⟩, trivial⟩ (places_spec d s _ _ _ V (hd.mono hV) (by omega) hsm hrr) ?_
            rintro _ V2 hv2 rfl
            refine D_val rfl rfl rfl (R_cmp rfl rfl rfl) ?_
            refine D_done ?_
            refine Q_then ?_
            refine K_if rfl (fun h46 => ?_) (fun h46 => ?_)
            ·
              have hwb : widthBad d = true := by
                unfold widthBad
                rw [List.any_eq_true]
                refine ⟨s, List.mem_range.2 hs', ?_⟩
                simp only [decide_eq_true_eq, hgs, hgr]
                omega
              refine K_seq ?_
              refine K_region ?_
              refine KV (R_assign rfl) rfl ?_
              refine K_nil ?_
              refine Q_then ?_
              refine K_ret ?_
              refine Q_block_ret ?_
              refine Q_then_ret ?_
              refine Q_then_ret ?_
              refine Q_block_ret ?_
              refine Q_then_ret ?_
              refine results_gen (rs := [.tmp 2]) (vs := [_]) rfl ⟨rfl, trivial⟩ ?_
              simp only [tupV, dtErr]
              rw [if_neg h12, if_neg (by omega), if_neg h29, if_pos hwb]
            ·
              have hwid2 : ∀ j (h : j < d.to.length), j < s + 1 → (d.to.getD j []).length = d.acc.length ^ (d.ranks.getD j 0).toNat := by
                intro j h hj
                by_cases e : j = s
                · subst e; rw [hgs, hgr]; omega
                · exact hwid j h (by omega)
              refine K_skip ?_
              refine Q_block ?_
              refine Q_then ?_
              refine K_region ?_
              refine KV (R_move rfl) rfl ?_
              refine KV (R_add rfl rfl (by omega)) rfl ?_
              refine KV (R_assign rfl) rfl ?_
              refine K_nil ?_
              refine Q_nextD (s + 1, V2) ⟨hs', hV.trans hv2, hwid2⟩ (by (try dsimp only); omega) ⟨rfl, trivial⟩ rfl rfl rfl
          ·
            have hwb : widthBad d = false := by
              unfold widthBad
              rw [List.any_eq_false]
              intro s hs
              have hs2 := List.mem_range.1 hs
              have := hwid s hs2 (by omega)
              simpa using this
            refine K_exit ?_
            refine Q_then_exit ?_
            refine Q_then_exit ?_
            refine Q_block_exit ?_
            refine Q_then ?_
            refine K_seq ?_
            refine K_seq ?_
            refine K_region ?_
            refine KV (R_assign rfl) rfl ?_
            refine K_nil ?_
            refine Q_then ?_
            refine K_block ?_
            refine K_loopD (G := Nat) [2, 6, 7, 47, 48, 49, 50, 51, 52, 53, 54, 55, 56, 57, 58, 59, 60, 61, 62, 63, 64, 65, 66, 67, 68, 69, 70, 71, 72, 73, 74, 75, 76, 77, 78, 79, 80, 81, 82, 83, 84] (fun g => [(6, .int .i64 (g : Int))]) (fun hl g => hl) (fun g => V) (fun g => (g ≤ d.to.length) ∧ (∀ j (h : j < d.to.length), j < g → d.to[j].any (badQ d.acc.length) = false)) (fun g => d.to.length - g) 0 ⟨Nat.zero_le _, fun j _ h => by simp at h⟩ ⟨rfl, trivial⟩ (by simp only [args0, Nat.reduceAdd, del, memN, beqN, Nat.reduceBEq, cond_true, cond_false]; rfl) rfl rfl ?_
            rintro s ⟨hs, hent⟩
            try dsimp only at hs
            try dsimp only at hent
            dsimp only [List.set, List.cons_append, List.nil_append]
            refine K_seq ?_
            refine K_seq ?_
            refine K_region ?_
            refine KV (R_move rfl) rfl ?_
            refine KV (R_fieldAddr 2 fd63_2 rfl) rfl ?_
            refine KV (R_loadO ty44 0 rfl rfl rfl rfl (fun _ => rfl) rfl) rfl ?_
            refine KV (R_len sl44 rfl) rfl ?_
            refine KV (R_cmp rfl rfl rfl) rfl ?_
            refine K_nil ?_
            refine Q_then ?_
            refine K_if rfl (fun h51 => ?_) (fun h51 => ?_)
            ·
              have hs' : s < d.to.length := by omega
              obtain ⟨tb, to_, ea, ecp, hte, hta, hes⟩ := (hd.mono hV).t.get hs'
              cases hte
              have hbl := hb4 _ (List.getElem_mem hs')
              refine K_skip ?_
              refine Q_then ?_
              refine K_seq ?_
              refine K_block ?_
              refine K_seq ?_
              refine K_region ?_
              refine KV (R_assign rfl) rfl ?_
              refine K_nil ?_
              refine Q_then ?_
              refine K_block ?_
              refine K_loopD (G := Nat) [2, 7, 54, 55, 56, 57, 58, 59, 60, 61, 62, 63, 64, 65, 66, 67, 68, 69, 70, 71, 72, 73, 74, 75, 76, 77, 78, 79, 80, 81, 82, 83, 84] (fun g => [(7, .int .i64 (g : Int))]) (fun hl g => hl) (fun g => V) (fun g => (g ≤ d.to[s].length) ∧ (∀ j (h : j < d.to[s].length), j < g → badQ d.acc.length d.to[s][j] = false)) (fun g => d.to[s].length - g) 0 ⟨Nat.zero_le _, fun j _ h => by simp at h⟩ ⟨rfl, trivial⟩ (by simp only [args0, Nat.reduceAdd, del, memN, beqN, Nat.reduceBEq, cond_true, cond_false]; rfl) rfl rfl ?_
              rintro k ⟨hk, hno⟩
              try dsimp only at hk
              try dsimp only at hno
              dsimp only [List.set, List.cons_append, List.nil_append]
              refine K_seq ?_
              refine K_seq ?_
              refine K_region ?_
              refine KV (R_move rfl) rfl ?_
              refine KV (R_fieldAddr 2 fd63_2 rfl) rfl ?_
              refine KV (R_loadO ty44 0 rfl rfl rfl rfl (fun _ => rfl) rfl) rfl ?_
              refine KV (R_move rfl) rfl ?_
              refine KV (R_indexN sl44 ty25 rfl rfl (by omega)) rfl ?_
              refine KV (R_loadH ty25 rfl (hta) rfl (fun _ => rfl) rfl) rfl ?_
              refine KV (R_len sl25 rfl) rfl ?_
              refine KV (R_cmp rfl rfl rfl) rfl ?_
              refine K_nil ?_
              refine Q_then ?_
              refine K_if rfl (fun h61 => ?_) (fun h61 => ?_)
              ·
                have hk' : k < d.to[s].length := by omega
                obtain ⟨eb, eo, hee, htx⟩ := hes.get hk'
                cases hee
                refine K_skip ?_
                refine Q_then ?_
                refine K_seq ?_
                refine K_block ?_
                refine K_seq ?_
                refine K_region ?_
                refine KV (R_fieldAddr 2 fd63_2 rfl) rfl ?_
                refine KV (R_loadO ty44 0 rfl rfl rfl rfl (fun _ => rfl) rfl) rfl ?_
                refine KV (R_move rfl) rfl ?_
                refine KV (R_indexN sl44 ty25 rfl rfl (by omega)) rfl ?_
                refine KV (R_loadH ty25 rfl (hta) rfl (fun _ => rfl) rfl) rfl ?_
                refine KV (R_move rfl) rfl ?_
                refine KV (R_indexN sl25 ty3 rfl rfl (by omega)) rfl ?_
                refine KV (R_loadH ty3 rfl (htx) rfl (fun _ => rfl) rfl) rfl ?_
                refine KV (R_cmp rfl rfl rfl) rfl ?_
                refine KV (R_move rfl) rfl ?_
                refine K_split ?_ ?_
                ·
                  intro h73
                  refine K_gno rfl rfl rfl rfl ?_
                  refine K_gno rfl rfl rfl rfl ?_
                  refine K_gno rfl rfl rfl rfl ?_
                  refine K_gno rfl rfl rfl rfl ?_
                  refine K_gno rfl rfl rfl rfl ?_
                  refine K_gno rfl rfl rfl rfl ?_
                  refine K_gno rfl rfl rfl rfl ?_
                  refine K_gno rfl rfl rfl rfl ?_
                  refine K_gno rfl rfl rfl rfl ?_
                  refine K_gno rfl rfl rfl rfl ?_
                  refine KV (R_pickT rfl rfl) rfl ?_
                  refine K_nil ?_
                  refine Q_then ?_
                  refine K_ifT rfl ?_
                  refine K_seq ?_
                  refine K_region ?_
                  refine KV (R_assign rfl) rfl ?_
                  refine K_nil ?_
                  refine Q_then ?_
                  refine K_ret ?_
                  refine Q_block_ret ?_
                  refine Q_then_ret ?_
                  refine Q_then_ret ?_
                  refine Q_block_ret ?_
                  refine Q_block_ret ?_
                  refine Q_then_ret ?_
                  refine Q_then_ret ?_
                  refine Q_block_ret ?_
                  refine Q_then_ret ?_
                  refine results_gen (rs := [.tmp 2]) (vs := [_]) rfl ⟨rfl, trivial⟩ ?_
                  have heb : entryBad d = true := List.any_eq_true.2 ⟨_, List.getElem_mem hs', List.any_eq_true.2 ⟨_, List.getElem_mem hk', by simp [badQ]; omega⟩⟩
                  simp only [tupV, dtErr]
                  rw [if_neg h12, if_neg (by omega), if_neg h29, hwb, heb]
                  rfl
                ·
                  intro h73
                  refine K_gyes rfl rfl ?_
                  refine KV (R_fieldAddr 2 fd63_2 rfl) rfl ?_
                  refine K_gyes rfl rfl ?_
                  refine KV (R_loadO ty44 0 rfl rfl rfl rfl (fun _ => rfl) rfl) rfl ?_
                  refine K_gyes rfl rfl ?_
                  refine KV (R_move rfl) rfl ?_
                  refine K_gyes rfl rfl ?_
                  refine KV (R_indexN sl44 ty25 rfl rfl (by omega)) rfl ?_
                  refine K_gyes rfl rfl ?_
                  refine KV (R_loadH ty25 rfl (hta) rfl (fun _ => rfl) rfl) rfl ?_
                  refine K_gyes rfl rfl ?_
                  refine KV (R_move rfl) rfl ?_
                  refine K_gyes rfl rfl ?_
                  refine KV (R_indexN sl25 ty3 rfl rfl (by omega)) rfl ?_
                  refine K_gyes rfl rfl ?_
                  refine KV (R_loadH ty3 rfl (htx) rfl (fun _ => rfl) rfl) rfl ?_
                  refine K_gyes rfl rfl ?_
                  refine KV (R_move rfl) rfl ?_
                  refine K_gyes rfl rfl ?_
                  refine KV (R_cmp rfl rfl rfl) rfl ?_
                  refine KV (R_pickF rfl rfl) rfl ?_
                  refine K_nil ?_
                  refine Q_then ?_
                  refine K_if rfl (fun h84 => ?_) (fun h84 => ?_)
                  ·
                    refine K_seq ?_
                    refine K_region ?_
                    refine KV (R_assign rfl) rfl ?_
                    refine K_nil ?_
                    refine Q_then ?_
                    refine K_ret ?_
                    refine Q_block_ret ?_
                    refine Q_then_ret ?_
                    refine Q_then_ret ?_
                    refine Q_block_ret ?_
                    refine Q_block_ret ?_
                    refine Q_then_ret ?_
                    refine Q_then_ret ?_
                    refine Q_block_ret ?_
                    refine Q_then_ret ?_
                    refine results_gen (rs := [.tmp 2]) (vs := [_]) rfl ⟨rfl, trivial⟩ ?_
                    have heb : entryBad d = true := List.any_eq_true.2 ⟨_, List.getElem_mem hs', List.any_eq_true.2 ⟨_, List.getElem_mem hk', by simp [badQ]; omega⟩⟩
                    simp only [tupV, dtErr]
                    rw [if_neg h12, if_neg (by omega), if_neg h29, hwb, heb]
                    rfl
                  ·
                    have hno2 : ∀ j (h : j < d.to[s].length), j < k + 1 → badQ d.acc.length d.to[s][j] = false := by
                      intro j h hj
                      by_cases e : j = k
                      · subst e; simp [badQ]; omega
                      · exact hno j h (by omega)
                    refine K_skip ?_
                    refine Q_block ?_
                    refine Q_then ?_
                    refine K_region ?_
                    refine KV (R_move rfl) rfl ?_
                    refine KV (R_add rfl rfl (by omega)) rfl ?_
                    refine KV (R_assign rfl) rfl ?_
                    refine K_nil ?_
                    refine Q_nextD (k + 1) ⟨hk', hno2⟩ (by (try dsimp only); omega) ⟨rfl, trivial⟩ rfl rfl rfl
              ·
                have hk' : k = d.to[s].length := by omega
                have hent2 : ∀ j (h : j < d.to.length), j < s + 1 → d.to[j].any (badQ d.acc.length) = false := by
                  intro j h hj
                  by_cases e : j = s
                  · subst e
                    rw [List.any_eq_false]
                    intro x hx
                    obtain ⟨i, hi, rfl⟩ := List.getElem_of_mem hx
                    simp [hno i hi (by omega)]
                  · exact hent j h (by omega)
                refine K_exit ?_
                refine Q_then_exit ?_
                refine Q_then_exit ?_
                refine Q_block_exit ?_
                refine Q_block ?_
                refine Q_then ?_
                refine K_region ?_
                refine KV (R_move rfl) rfl ?_
                refine KV (R_add rfl rfl (by omega)) rfl ?_
                refine KV (R_assign rfl) rfl ?_
                refine K_nil ?_
                refine Q_nextD (s + 1) ⟨hs', hent2⟩ (by (try dsimp only); omega) ⟨rfl, trivial⟩ rfl rfl rfl
            ·
              have heb : entryBad d = false := by
                unfold entryBad
                rw [List.any_eq_false]
                intro x hx
                obtain ⟨j, hj, rfl⟩ := List.getElem_of_mem hx
                simp [hent j hj (by omega)]
              refine K_exit ?_
              refine Q_then_exit ?_
              refine Q_then_exit ?_
              refine Q_block_exit ?_
              refine Q_then ?_
              refine K_seq ?_
              refine K_region ?_
              refine KV (R_assign rfl) rfl ?_
              refine K_nil ?_
              refine Q_then ?_
              refine K_ret ?_
              refine results_gen (rs := [.tmp 2]) (vs := [_]) rfl ⟨rfl, trivial⟩ ?_
              simp only [tupV, dtErr]
              rw [if_neg h12, if_neg (by omega), if_neg h29, hwb, heb]
              rfl

theorem rnodes_spec (rk : List Int) (rv : Value) (hrkl : rk.length ≤ 1099511627776) : ∀ m t H cs, t.size ≤ m → m ≤ 1099511627776 → RepT H t cs → SI H rv rk → Sat Tryd.prog F75 #[rv, .agg cs.toArray] H (fun r _ => r = .int .i64 (Tr.nodesErr rk t)) := by
  intro m
  induction m with
  | zero => intro t H cs h; have := t.size_pos; omega
  | succ m ih =>
  intro t H cs hm hb hr hrv
  cases hr with | mk s ts a cap b off cs' hs ha hA hrec =>
  obtain ⟨va, vc, rfl⟩ := hrv.shape
  have hsz : (Tr.node s ts).size = 1 + Tr.sizes ts := rfl
  have hln := Tr.length_le_sizes ts
  have hunf : Tr.nodesErr rk (.node s ts) = if s < 0 ∨ (rk.length : Int) ≤ s then 6 else if (ts.length : Int) ≠ rk.getD s.toNat 0 then 3 else Tr.nodesErrs rk ts := by simp only [Tr.nodesErr]
  refine enterO (n := 43) (args := [.slice va rk.length vc, .agg #[.int .i64 s, .slice a ts.length cap]]) Tryd.func75 rfl rfl rfl fun w0 => ?_
  refine K_seq ?_
  refine K_region ?_
  refine KA (A_box rfl) rfl fun b3 => ?_
  refine KV (R_assign rfl) rfl ?_
  refine K_nil ?_
  refine Q_then ?_
  refine K_seq ?_
  refine K_seq ?_
  refine K_region ?_
  refine KV (R_fieldAddr 0 fd24_0 rfl) rfl ?_
  refine KV (R_loadO ty3 0 rfl rfl rfl rfl (fun _ => rfl) rfl) rfl ?_
  refine KV (R_cmp rfl rfl rfl) rfl ?_
  refine KV (R_move rfl) rfl ?_
  refine K_split ?_ ?_
  ·
    intro h10
    refine K_gno rfl rfl rfl rfl ?_
    refine K_gno rfl rfl rfl rfl ?_
    refine K_gno rfl rfl rfl rfl ?_
    refine K_gno rfl rfl rfl rfl ?_
    refine K_gno rfl rfl rfl rfl ?_
    refine KV (R_pickT rfl rfl) rfl ?_
    refine K_nil ?_
    refine Q_then ?_
    refine K_ifT rfl ?_
    refine K_seq ?_
    refine K_region ?_
    refine KV (R_assign rfl) rfl ?_
    refine K_nil ?_
    refine Q_then ?_
    refine K_ret ?_
    refine Q_then_ret ?_
    refine results_gen (rs := [.tmp 4]) (vs := [_]) rfl ⟨rfl, trivial⟩ ?_
    rw [hunf, if_pos (.inl (by omega))]
    rfl
  ·
    intro h10
    refine K_gyes rfl rfl ?_
    refine KV (R_fieldAddr 0 fd24_0 rfl) rfl ?_
    refine K_gyes rfl rfl ?_
    refine KV (R_loadO ty3 0 rfl rfl rfl rfl (fun _ => rfl) rfl) rfl ?_
    refine K_gyes rfl rfl ?_
    refine KV (R_move rfl) rfl ?_
    refine K_gyes rfl rfl ?_
    refine KV (R_len sl25 rfl) rfl ?_
    refine K_gyes rfl rfl ?_
    refine KV (R_cmp rfl rfl rfl) rfl ?_
    refine KV (R_pickF rfl rfl) rfl ?_
    refine K_nil ?_
    refine Q_then ?_
    refine K_if rfl (fun h16 => ?_) (fun h16 => ?_)
    ·
      refine K_seq ?_
      refine K_region ?_
      refine KV (R_assign rfl) rfl ?_
      refine K_nil ?_
      refine Q_then ?_
      refine K_ret ?_
      refine Q_then_ret ?_
      refine results_gen (rs := [.tmp 4]) (vs := [_]) rfl ⟨rfl, trivial⟩ ?_
      rw [hunf, if_pos (.inr (by omega))]
      rfl
    ·
      have hs0 : 0 ≤ s := by omega
      have hs1 : s < rk.length := by omega
      have hs2 : s.toNat < rk.length := by omega
      obtain ⟨rb, ro, rfl, hrk⟩ := hrv.get hs2
      have hgd : rk.getD s.toNat 0 = rk[s.toNat] := by simp [List.getD, hs2]
      refine K_skip ?_
      refine Q_then ?_
      refine K_seq ?_
      refine K_seq ?_
      refine K_regionD (fin := false) (R := [0, 1, 2, 3, 4, 5, 6, 7, 8]) (by kernel_rfl) mixed (.cons_cons _ (List.nil_sublist _)) ?_
      refine D_val rfl rfl rfl (R_fieldAddr 1 fd24_1 rfl) ?_
      refine D_val rfl rfl rfl (R_loadO ty22 0 rfl rfl rfl rfl (fun _ => rfl) rfl) ?_
      refine D_val rfl rfl rfl (R_len sl22 rfl) ?_
      refine D_val rfl rfl rfl (R_move rfl) ?_
      refine D_val rfl rfl rfl (R_fieldAddr 0 fd24_0 rfl) ?_
      refine D_val rfl rfl rfl (R_loadO ty3 0 rfl rfl rfl rfl (fun _ => rfl) rfl) ?_
      refine D_val rfl rfl rfl (R_index sl25 ty3 rfl rfl ⟨hs0, hs1⟩) ?_
      refine D_val rfl rfl rfl (R_loadH ty3 rfl (hrk) rfl (fun _ => rfl) rfl) ?_
      refine D_val rfl rfl rfl (R_cmp rfl rfl rfl) ?_
      refine D_done ?_
      refine Q_then ?_
      refine K_if rfl (fun h25 => ?_) (fun h25 => ?_)
      ·
        refine K_seq ?_
        refine K_region ?_
        refine KV (R_assign rfl) rfl ?_
        refine K_nil ?_
        refine Q_then ?_
        refine K_ret ?_
        refine Q_then_ret ?_
        refine results_gen (rs := [.tmp 4]) (vs := [_]) rfl ⟨rfl, trivial⟩ ?_
        rw [hunf, if_neg (by omega), hgd, if_pos h25]
        rfl
      ·
        refine K_skip ?_
        refine Q_then ?_
        refine K_seq ?_
        refine K_seq ?_
        refine K_region ?_
        refine KV (R_assign rfl) rfl ?_
        refine K_nil ?_
        refine Q_then ?_
        refine K_block ?_
        refine K_loopD (G := Nat × View) [4, 5, 6, 26, 27, 28, 29, 30, 31, 32, 33, 34, 35, 36, 37, 38, 39, 40, 41, 42] (fun g => [(5, .int .i64 (g.1 : Int))]) (fun hl g => hl) (fun g => g.2) (fun g => (g.1 ≤ ts.length) ∧ (VLe H g.2) ∧ (Tr.nodesErrs rk ts = Tr.nodesErrs rk (ts.drop g.1))) (fun g => ts.length - g.1) (0, H) ⟨Nat.zero_le _, VLe.refl _, rfl⟩ ⟨rfl, trivial⟩ (by simp only [args0, Nat.reduceAdd, del, memN, beqN, Nat.reduceBEq, cond_true, cond_false]; rfl) rfl rfl ?_
        rintro ⟨k, V⟩ ⟨hk, hV, hcm⟩
        dsimp only at hk hV hcm
        dsimp only [List.set, List.cons_append, List.nil_append]
        refine K_seq ?_
        refine K_seq ?_
        refine K_region ?_
        refine KV (R_move rfl) rfl ?_
        refine KV (R_fieldAddr 1 fd24_1 rfl) rfl ?_
        refine KV (R_loadO ty22 0 rfl rfl rfl rfl (fun _ => rfl) rfl) rfl ?_
        refine KV (R_len sl22 rfl) rfl ?_
        refine KV (R_cmp rfl rfl rfl) rfl ?_
        refine K_nil ?_
        refine Q_then ?_
        refine K_if rfl (fun h30 => ?_) (fun h30 => ?_)
        ·
          have hlt' : k < ts.length := by omega
          have htk := Tr.sizes_take ts k hlt'
          have hle' := Tr.sizes_take_le ts (k + 1)
          have hcd := Tr.nodesErrs_cons (rk := rk) hlt'
          have ha' := ha (by intro e; subst e; simp at hlt')
          subst ha'
          refine K_skip ?_
          refine Q_then ?_
          refine K_seq ?_
          refine K_block ?_
          refine K_seq ?_
          refine K_region ?_
          refine KV (R_move rfl) rfl ?_
          refine KV (R_fieldAddr 1 fd24_1 rfl) rfl ?_
          refine KV (R_loadO ty22 0 rfl rfl rfl rfl (fun _ => rfl) rfl) rfl ?_
          refine KV (R_move rfl) rfl ?_
          refine KV (R_indexN sl22 ty24 rfl rfl (by omega)) rfl ?_
          refine KV (R_loadH ty24 rfl ((hA k hlt').2.mono hV) (hA k hlt').1 (fun e => by cases e) rfl) rfl ?_
          refine K_call c75 rfl rfl (ih ts[k] V (cs' k) (by omega) (by omega) ((hrec k hlt').mono hV) (hrv.mono hV)) ?_
          rintro _ V1 hle1 rfl
          refine KV (R_assign rfl) rfl ?_
          refine K_nil ?_
          refine Q_then ?_
          refine K_seq ?_
          refine K_region ?_
          refine KV (R_move rfl) rfl ?_
          refine KV (R_cmp rfl rfl rfl) rfl ?_
          refine K_nil ?_
          refine Q_then ?_
          refine K_if rfl (fun h41 => ?_) (fun h41 => ?_)
          ·
            refine K_seq ?_
            refine K_region ?_
            refine KV (R_move rfl) rfl ?_
            refine KV (R_assign rfl) rfl ?_
            refine K_nil ?_
            refine Q_then ?_
            refine K_ret ?_
            refine Q_block_ret ?_
            refine Q_then_ret ?_
            refine Q_then_ret ?_
            refine Q_block_ret ?_
            refine Q_then_ret ?_
            refine results_gen (rs := [.tmp 4]) (vs := [_]) rfl ⟨rfl, trivial⟩ ?_
            rw [hunf, if_neg (by omega), hgd, if_neg h25, hcm, hcd, if_pos h41]
            rfl
          ·
            refine K_skip ?_
            refine Q_block ?_
            refine Q_then ?_
            refine K_region ?_
            refine KV (R_move rfl) rfl ?_
            refine KV (R_add rfl rfl (by omega)) rfl ?_
            refine KV (R_assign rfl) rfl ?_
            refine K_nil ?_
            refine Q_nextD (k + 1, V1) ⟨hlt', hV.trans hle1, by rw [hcm, hcd, if_neg h41]⟩ (by (try dsimp only); omega) ⟨rfl, trivial⟩ rfl rfl rfl
        ·
          have hk' : k = ts.length := by omega
          subst hk'
          refine K_exit ?_
          refine Q_then_exit ?_
          refine Q_then_exit ?_
          refine Q_block_exit ?_
          refine Q_then ?_
          refine K_seq ?_
          refine K_region ?_
          refine KV (R_assign rfl) rfl ?_
          refine K_nil ?_
          refine Q_then ?_
          refine K_ret ?_
          refine results_gen (rs := [.tmp 4]) (vs := [_]) rfl ⟨rfl, trivial⟩ ?_
          rw [hunf, if_neg (by omega), hgd, if_neg h25, hcm, List.drop_length]
          rfl

theorem right_spec (rk : List Int) (rv : Value) (hrkl : rk.length ≤ 1099511627776) : ∀ m t H cs, t.size ≤ m → m ≤ 1099511627776 → RepT H t cs → SI H rv rk → Sat Tryd.prog F115 #[rv, .agg cs.toArray] H (fun r _ => r = .int .i64 (Tr.nodesErr rk t)) := by
  intro m
  induction m with
  | zero => intro t H cs h; have := t.size_pos; omega
  | succ m ih =>
  intro t H cs hm hb hr hrv
  cases hr with | mk s ts a cap b off cs' hs ha hA hrec =>
  obtain ⟨va, vc, rfl⟩ := hrv.shape
  have hsz : (Tr.node s ts).size = 1 + Tr.sizes ts := rfl
  have hln := Tr.length_le_sizes ts
  have hunf : Tr.nodesErr rk (.node s ts) = if s < 0 ∨ (rk.length : Int) ≤ s then 6 else if (ts.length : Int) ≠ rk.getD s.toNat 0 then 3 else Tr.nodesErrs rk ts := by simp only [Tr.nodesErr]
  refine enterO (n := 43) (args := [.slice va rk.length vc, .agg #[.int .i64 s, .slice a ts.length cap]]) Tryd.func115 rfl rfl rfl fun w0 => ?_
  refine K_seq ?_
  refine K_region ?_
  refine KA (A_box rfl) rfl fun b3 => ?_
  refine KV (R_assign rfl) rfl ?_
  refine K_nil ?_
  refine Q_then ?_
  refine K_seq ?_
  refine K_block ?_
  refine K_seq ?_
  refine K_region ?_
  refine KV (R_fieldAddr 0 fd30_0 rfl) rfl ?_
  refine KV (R_loadO ty3 0 rfl rfl rfl rfl (fun _ => rfl) rfl) rfl ?_
  refine KV (R_cmp rfl rfl rfl) rfl ?_
  refine KV (R_move rfl) rfl ?_
  refine K_split ?_ ?_
  ·
    intro h12
    refine K_gno rfl rfl rfl rfl ?_
    refine K_gno rfl rfl rfl rfl ?_
    refine K_gno rfl rfl rfl rfl ?_
    refine K_gno rfl rfl rfl rfl ?_
    refine K_gno rfl rfl rfl rfl ?_
    refine KV (R_pickT rfl rfl) rfl ?_
    refine KV (R_assign rfl) rfl ?_
    refine K_nil ?_
    refine Q_then ?_
    refine K_ifT rfl ?_
    refine K_seq ?_
    refine K_region ?_
    refine KV (R_assign rfl) rfl ?_
    refine K_nil ?_
    refine Q_then ?_
    refine K_ret ?_
    refine Q_block_ret ?_
    refine Q_then_ret ?_
    refine results_gen (rs := [.tmp 4]) (vs := [_]) rfl ⟨rfl, trivial⟩ ?_
    rw [hunf, if_pos (.inl (by omega))]
    rfl
  ·
    intro h12
    refine K_gyes rfl rfl ?_
    refine KV (R_fieldAddr 0 fd30_0 rfl) rfl ?_
    refine K_gyes rfl rfl ?_
    refine KV (R_loadO ty3 0 rfl rfl rfl rfl (fun _ => rfl) rfl) rfl ?_
    refine K_gyes rfl rfl ?_
    refine KV (R_move rfl) rfl ?_
    refine K_gyes rfl rfl ?_
    refine KV (R_len sl47 rfl) rfl ?_
    refine K_gyes rfl rfl ?_
    refine KV (R_cmp rfl rfl rfl) rfl ?_
    refine KV (R_pickF rfl rfl) rfl ?_
    refine KV (R_assign rfl) rfl ?_
    refine K_nil ?_
    refine Q_then ?_
    refine K_if rfl (fun h8 => ?_) (fun h8 => ?_)
    ·
      refine K_seq ?_
      refine K_region ?_
      refine KV (R_assign rfl) rfl ?_
      refine K_nil ?_
      refine Q_then ?_
      refine K_ret ?_
      refine Q_block_ret ?_
      refine Q_then_ret ?_
      refine results_gen (rs := [.tmp 4]) (vs := [_]) rfl ⟨rfl, trivial⟩ ?_
      rw [hunf, if_pos (.inr (by omega))]
      rfl
    ·
      have hs0 : 0 ≤ s := by omega
      have hs1 : s < rk.length := by omega
      have hs2 : s.toNat < rk.length := by omega
      obtain ⟨rb, ro, rfl, hrk⟩ := hrv.get hs2
      have hgd : rk.getD s.toNat 0 = rk[s.toNat] := by simp [List.getD, hs2]
      refine K_seq ?_
      refine K_regionD (fin := false) (R := [0, 1, 2, 3, 4, 5, 6, 7, 8, 9]) (by kernel_rfl) mixed (.cons_cons _ (List.nil_sublist _)) ?_
      refine D_val rfl rfl rfl (R_fieldAddr 1 fd30_1 rfl) ?_
      refine D_val rfl rfl rfl (R_loadO ty28 0 rfl rfl rfl rfl (fun _ => rfl) rfl) ?_
      refine D_val rfl rfl rfl (R_len sl28 rfl) ?_
      refine D_val rfl rfl rfl (R_move rfl) ?_
      refine D_val rfl rfl rfl (R_fieldAddr 0 fd30_0 rfl) ?_
      refine D_val rfl rfl rfl (R_loadO ty3 0 rfl rfl rfl rfl (fun _ => rfl) rfl) ?_
      refine D_val rfl rfl rfl (R_index sl47 ty3 rfl rfl ⟨hs0, hs1⟩) ?_
      refine D_val rfl rfl rfl (R_loadH ty3 rfl (hrk) rfl (fun _ => rfl) rfl) ?_
      refine D_val rfl rfl rfl (R_cmp rfl rfl rfl) ?_
      refine D_val rfl rfl rfl (R_assign rfl) ?_
      refine D_done ?_
      refine Q_then ?_
      refine K_if rfl (fun h19 => ?_) (fun h19 => ?_)
      ·
        refine K_seq ?_
        refine K_region ?_
        refine KV (R_assign rfl) rfl ?_
        refine K_nil ?_
        refine Q_then ?_
        refine K_ret ?_
        refine Q_block_ret ?_
        refine Q_then_ret ?_
        refine results_gen (rs := [.tmp 4]) (vs := [_]) rfl ⟨rfl, trivial⟩ ?_
        rw [hunf, if_neg (by omega), hgd, if_pos h19]
        rfl
      ·
        refine K_skip ?_
        refine Q_block ?_
        refine Q_then ?_
        refine K_seq ?_
        refine K_seq ?_
        refine K_region ?_
        refine KV (R_fieldAddr 1 fd30_1 rfl) rfl ?_
        refine KV (R_loadO ty28 0 rfl rfl rfl rfl (fun _ => rfl) rfl) rfl ?_
        refine KV (R_len sl28 rfl) rfl ?_
        refine KV (R_move rfl) rfl ?_
        refine K_nil ?_
        refine Q_then ?_
        refine K_block ?_
        refine K_loopD (G := Nat × View) [4, 6, 7, 32, 33, 34, 35, 36, 37, 38, 39, 40, 41, 42] (fun g => [(32, .int .i64 (g.1 : Int))]) (fun hl g => hl) (fun g => g.2) (fun g => (g.1 ≤ ts.length) ∧ (VLe H g.2) ∧ (Tr.nodesErrs rk ts = Tr.nodesErrs rk (ts.drop g.1))) (fun g => ts.length - g.1) (0, H) ⟨Nat.zero_le _, VLe.refl _, rfl⟩ ⟨rfl, trivial⟩ (by simp only [args0, Nat.reduceAdd, del, memN, beqN, Nat.reduceBEq, cond_true, cond_false]; rfl) rfl rfl ?_
        rintro ⟨k, V⟩ ⟨hk, hV, hcm⟩
        dsimp only at hk hV hcm
        dsimp only [List.set, List.cons_append, List.nil_append]
        refine K_seq ?_
        refine K_region ?_
        refine KV (R_cmp rfl rfl rfl) rfl ?_
        refine K_nil ?_
        refine Q_then ?_
        refine K_seq ?_
        refine K_if rfl (fun h33 => ?_) (fun h33 => ?_)
        ·
          have hlt' : k < ts.length := by omega
          have htk := Tr.sizes_take ts k hlt'
          have hle' := Tr.sizes_take_le ts (k + 1)
          have hcd := Tr.nodesErrs_cons (rk := rk) hlt'
          have ha' := ha (by intro e; subst e; simp at hlt')
          subst ha'
          obtain ⟨y0, y1, y2, y3, hcs⟩ := (hrec k hlt').shape
          have hreck := (hrec k hlt').mono hV
          rw [hcs] at hreck
          refine K_skip ?_
          refine Q_then ?_
          refine K_seq ?_
          refine K_block ?_
          refine K_seq ?_
          refine K_region ?_
          refine KV (R_indexN sl28 ty30 rfl rfl (by omega)) rfl ?_
          refine KV (R_loadH ty30 rfl (hcs ▸ (hA k hlt').2.mono hV) rfl (fun e => by cases e) rfl) rfl ?_
          refine KA (A_alloc z30) rfl fun b6 => ?_
          refine K_store ty30 0 rfl rfl rfl rfl rfl rfl ?_
          refine K_nil ?_
          refine Q_then ?_
          refine K_seq ?_
          refine K_region ?_
          refine KV (R_move rfl) rfl ?_
          refine KV (R_loadO ty30 0 rfl rfl rfl rfl (fun e => by cases e) rfl) rfl ?_
          refine K_call c115 rfl rfl (ih ts[k] V _ (by omega) (by omega) hreck (hrv.mono hV)) ?_
          rintro _ V1 hle1 rfl
          refine KV (R_assign rfl) rfl ?_
          refine K_nil ?_
          refine Q_then ?_
          refine K_seq ?_
          refine K_region ?_
          refine KV (R_move rfl) rfl ?_
          refine KV (R_cmp rfl rfl rfl) rfl ?_
          refine K_nil ?_
          refine Q_then ?_
          refine K_if rfl (fun h40 => ?_) (fun h40 => ?_)
          ·
            refine K_seq ?_
            refine K_region ?_
            refine KV (R_move rfl) rfl ?_
            refine KV (R_assign rfl) rfl ?_
            refine K_nil ?_
            refine Q_then ?_
            refine K_ret ?_
            refine Q_block_ret ?_
            refine Q_then_ret ?_
            refine Q_then_ret ?_
            refine Q_block_ret ?_
            refine Q_then_ret ?_
            refine results_gen (rs := [.tmp 4]) (vs := [_]) rfl ⟨rfl, trivial⟩ ?_
            rw [hunf, if_neg (by omega), hgd, if_neg h19, hcm, hcd, if_pos h40]
            rfl
          ·
            refine K_skip ?_
            refine Q_block ?_
            refine Q_then ?_
            refine K_region ?_
            refine KV (R_add rfl rfl (by omega)) rfl ?_
            refine KV (R_move rfl) rfl ?_
            refine K_nil ?_
            refine KQ_sel [1] rfl ?_
            refine Q_nextD (k + 1, V1) ⟨hlt', hV.trans hle1, by rw [hcm, hcd, if_neg h40]⟩ (by (try dsimp only); omega) ⟨rfl, trivial⟩ rfl rfl rfl
        ·
          have hk' : k = ts.length := by omega
          subst hk'
          refine K_exit ?_
          refine Q_then_exit ?_
          refine Q_then_exit ?_
          refine Q_block_exit ?_
          refine Q_then ?_
          refine K_seq ?_
          refine K_region ?_
          refine KV (R_assign rfl) rfl ?_
          refine K_nil ?_
          refine Q_then ?_
          refine K_ret ?_
          refine results_gen (rs := [.tmp 4]) (vs := [_]) rfl ⟨rfl, trivial⟩ ?_
          rw [hunf, if_neg (by omega), hgd, if_neg h19, hcm, List.drop_length]
          rfl

theorem psize_spec : ∀ m t H cs, t.size ≤ m → m ≤ 1099511627776 → RepT H t cs → Sat Tryd.prog F118 #[.agg cs.toArray] H (fun v _ => v = .int .i64 (t.size : Int)) := by
  intro m
  induction m with
  | zero => intro t H cs h; have := t.size_pos; omega
  | succ m ih =>
  intro t H cs hm hb hr
  cases hr with | mk s ts a cap b off cs' hs ha hA hrec =>
  have hsz : (Tr.node s ts).size = 1 + Tr.sizes ts := rfl
  have hln := Tr.length_le_sizes ts
  have hdl := Tr.deeps_le ts
  refine enterO (n := 19) (args := [.agg #[.int .i64 s, .slice a ts.length cap]]) Tryd.func118 rfl rfl rfl fun w0 => ?_
  refine K_seq ?_
  refine K_region ?_
  refine KA (A_box rfl) rfl fun b1 => ?_
  refine KV (R_assign rfl) rfl ?_
  refine K_nil ?_
  refine Q_then ?_
  refine K_seq ?_
  refine K_region ?_
  refine KV (R_assign rfl) rfl ?_
  refine K_nil ?_
  refine Q_then ?_
  refine K_seq ?_
  refine K_seq ?_
  refine K_region ?_
  refine KV (R_fieldAddr 1 fd30_1 rfl) rfl ?_
  refine KV (R_loadO ty28 0 rfl rfl rfl rfl (fun _ => rfl) rfl) rfl ?_
  refine KV (R_len sl28 rfl) rfl ?_
  refine KV (R_move rfl) rfl ?_
  refine K_nil ?_
  refine Q_then ?_
  refine K_block ?_
  refine K_loopD (G := Nat × View) [3, 5, 9, 10, 11, 12, 13, 14, 15, 16, 17] (fun g => [(9, .int .i64 (g.1 : Int)), (3, .int .i64 (1 + (Tr.sizes (ts.take g.1) : Int)))]) (fun hl g => hl) (fun g => g.2) (fun g => (g.1 ≤ ts.length) ∧ (VLe H g.2)) (fun g => ts.length - g.1) (0, H) ⟨Nat.zero_le _, VLe.refl _⟩ ⟨rfl, rfl, trivial⟩ (by simp only [args0, Nat.reduceAdd, del, memN, beqN, Nat.reduceBEq, cond_true, cond_false]; rfl) rfl rfl ?_
  rintro ⟨k, V⟩ ⟨hk, hV⟩
  dsimp only at hk hV
  dsimp only [List.set, List.cons_append, List.nil_append]
  refine K_seq ?_
  refine K_region ?_
  refine KV (R_cmp rfl rfl rfl) rfl ?_
  refine K_nil ?_
  refine Q_then ?_
  refine K_seq ?_
  refine K_if rfl (fun h10 => ?_) (fun h10 => ?_)
  ·
    have hlt' : k < ts.length := by omega
    have htk := Tr.sizes_take ts k hlt'
    have hle' := Tr.sizes_take_le ts (k + 1)
    have hdk := Tr.deeps_take ts k hlt'
    have hdk2 := Tr.deeps_append (ts.take (k + 1)) (ts.drop (k + 1))
    rw [List.take_append_drop] at hdk2
    have ha' := ha (by intro e; subst e; simp at hlt')
    subst ha'
    obtain ⟨y0, y1, y2, y3, hcs⟩ := (hrec k hlt').shape
    have hreck := (hrec k hlt').mono hV
    rw [hcs] at hreck
    refine K_skip ?_
    refine Q_then ?_
    refine K_seq ?_
    refine K_block ?_
    refine K_seq ?_
    refine K_region ?_
    refine KV (R_indexN sl28 ty30 rfl rfl (by omega)) rfl ?_
    refine KV (R_loadH ty30 rfl (hcs ▸ (hA k hlt').2.mono hV) rfl (fun e => by cases e) rfl) rfl ?_
    refine KA (A_alloc z30) rfl fun b5 => ?_
    refine K_store ty30 0 rfl rfl rfl rfl rfl rfl ?_
    refine K_nil ?_
    refine Q_then ?_
    refine K_region ?_
    refine KV (R_move rfl) rfl ?_
    refine KV (R_loadO ty30 0 rfl rfl rfl rfl (fun e => by cases e) rfl) rfl ?_
    refine K_call c118 rfl rfl (ih ts[k] V _ (by omega) (by omega) hreck) ?_
    rintro _ V1 hle1 rfl
    refine KV (R_add rfl rfl (by omega)) rfl ?_
    refine KV (R_assign rfl) rfl ?_
    refine K_nil ?_
    refine Q_block ?_
    refine Q_then ?_
    refine K_region ?_
    refine KV (R_add rfl rfl (by omega)) rfl ?_
    refine KV (R_move rfl) rfl ?_
    refine K_nil ?_
    refine KQ_sel [1] rfl ?_
    refine Q_nextD (k + 1, V1) ⟨hlt', hV.trans hle1⟩ (by (try dsimp only); omega) ⟨rfl, congrArg (fun z => some (Value.int .i64 z)) (by dsimp only; omega), trivial⟩ rfl rfl rfl
  ·
    have hk' : k = ts.length := by omega
    subst hk'
    rw [List.take_length]
    refine K_exit ?_
    refine Q_then_exit ?_
    refine Q_then_exit ?_
    refine Q_block_exit ?_
    refine Q_then ?_
    refine K_seq ?_
    refine K_region ?_
    refine KV (R_move rfl) rfl ?_
    refine KV (R_assign rfl) rfl ?_
    refine K_nil ?_
    refine Q_then ?_
    refine K_ret ?_
    refine results_gen (rs := [.tmp 2]) (vs := [_]) rfl ⟨rfl, trivial⟩ ?_
    simp [tupV, Tr.size]

theorem pdepth_spec : ∀ m t H cs, t.size ≤ m → m ≤ 1099511627776 → RepT H t cs → Sat Tryd.prog F119 #[.agg cs.toArray] H (fun v _ => v = .int .i64 (t.deep : Int)) := by
  intro m
  induction m with
  | zero => intro t H cs h; have := t.size_pos; omega
  | succ m ih =>
  intro t H cs hm hb hr
  cases hr with | mk s ts a cap b off cs' hs ha hA hrec =>
  have hsz : (Tr.node s ts).size = 1 + Tr.sizes ts := rfl
  have hln := Tr.length_le_sizes ts
  have hdl := Tr.deeps_le ts
  refine enterO (n := 20) (args := [.agg #[.int .i64 s, .slice a ts.length cap]]) Tryd.func119 rfl rfl rfl fun w0 => ?_
  refine K_seq ?_
  refine K_region ?_
  refine KA (A_box rfl) rfl fun b1 => ?_
  refine KV (R_assign rfl) rfl ?_
  refine K_nil ?_
  refine Q_then ?_
  refine K_seq ?_
  refine K_region ?_
  refine KV (R_assign rfl) rfl ?_
  refine K_nil ?_
  refine Q_then ?_
  refine K_seq ?_
  refine K_seq ?_
  refine K_region ?_
  refine KV (R_fieldAddr 1 fd30_1 rfl) rfl ?_
  refine KV (R_loadO ty28 0 rfl rfl rfl rfl (fun _ => rfl) rfl) rfl ?_
  refine KV (R_len sl28 rfl) rfl ?_
  refine KV (R_move rfl) rfl ?_
  refine K_nil ?_
  refine Q_then ?_
  refine K_block ?_
  refine K_loopD (G := Nat × View) [3, 5, 9, 10, 11, 12, 13, 14, 15, 16, 17] (fun g => [(9, .int .i64 (g.1 : Int)), (3, .int .i64 (Tr.deeps (ts.take g.1) : Int))]) (fun hl g => hl) (fun g => g.2) (fun g => (g.1 ≤ ts.length) ∧ (VLe H g.2)) (fun g => ts.length - g.1) (0, H) ⟨Nat.zero_le _, VLe.refl _⟩ ⟨rfl, rfl, trivial⟩ (by simp only [args0, Nat.reduceAdd, del, memN, beqN, Nat.reduceBEq, cond_true, cond_false]; rfl) rfl rfl ?_
  rintro ⟨k, V⟩ ⟨hk, hV⟩
  dsimp only at hk hV
  dsimp only [List.set, List.cons_append, List.nil_append]
  refine K_seq ?_
  refine K_region ?_
  refine KV (R_cmp rfl rfl rfl) rfl ?_
  refine K_nil ?_
  refine Q_then ?_
  refine K_seq ?_
  refine K_if rfl (fun h10 => ?_) (fun h10 => ?_)
  ·
    have hlt' : k < ts.length := by omega
    have htk := Tr.sizes_take ts k hlt'
    have hle' := Tr.sizes_take_le ts (k + 1)
    have hdk := Tr.deeps_take ts k hlt'
    have hdk2 := Tr.deeps_append (ts.take (k + 1)) (ts.drop (k + 1))
    rw [List.take_append_drop] at hdk2
    have ha' := ha (by intro e; subst e; simp at hlt')
    subst ha'
    obtain ⟨y0, y1, y2, y3, hcs⟩ := (hrec k hlt').shape
    have hreck := (hrec k hlt').mono hV
    rw [hcs] at hreck
    refine K_skip ?_
    refine Q_then ?_
    refine K_seq ?_
    refine K_block ?_
    refine K_seq ?_
    refine K_region ?_
    refine KV (R_indexN sl28 ty30 rfl rfl (by omega)) rfl ?_
    refine KV (R_loadH ty30 rfl (hcs ▸ (hA k hlt').2.mono hV) rfl (fun e => by cases e) rfl) rfl ?_
    refine KA (A_alloc z30) rfl fun b5 => ?_
    refine K_store ty30 0 rfl rfl rfl rfl rfl rfl ?_
    refine K_nil ?_
    refine Q_then ?_
    refine K_region ?_
    refine KV (R_move rfl) rfl ?_
    refine KV (R_loadO ty30 0 rfl rfl rfl rfl (fun e => by cases e) rfl) rfl ?_
    refine K_call c119 rfl rfl (ih ts[k] V _ (by omega) (by omega) hreck) ?_
    rintro _ V1 hle1 rfl
    refine KV (R_max2 rfl rfl) rfl ?_
    refine KV (R_assign rfl) rfl ?_
    refine K_nil ?_
    refine Q_block ?_
    refine Q_then ?_
    refine K_region ?_
    refine KV (R_add rfl rfl (by omega)) rfl ?_
    refine KV (R_move rfl) rfl ?_
    refine K_nil ?_
    refine KQ_sel [1] rfl ?_
    refine Q_nextD (k + 1, V1) ⟨hlt', hV.trans hle1⟩ (by (try dsimp only); omega) ⟨rfl, congrArg (fun z => some (Value.int .i64 z)) (by dsimp only; split <;> omega), trivial⟩ rfl rfl rfl
  ·
    have hk' : k = ts.length := by omega
    subst hk'
    rw [List.take_length]
    refine K_exit ?_
    refine Q_then_exit ?_
    refine Q_then_exit ?_
    refine Q_block_exit ?_
    refine Q_then ?_
    refine K_seq ?_
    refine K_region ?_
    refine KV (R_move rfl) rfl ?_
    refine KV (R_add rfl rfl (by omega)) rfl ?_
    refine KV (R_assign rfl) rfl ?_
    refine K_nil ?_
    refine Q_then ?_
    refine K_ret ?_
    refine results_gen (rs := [.tmp 2]) (vs := [_]) rfl ⟨rfl, trivial⟩ ?_
    simp [tupV, Tr.deep]

theorem psmall_spec (t : Tr) (H : View) (cs : List Value) (hb : t.size ≤ 1073741824) (hr : RepT H t cs) : Sat Tryd.prog F114 #[.agg cs.toArray] H (fun r _ => r = .int .i64 (if (4096 : Int) < t.size then 2 else if (256 : Int) < t.deep then 16 else 0)) := by
  obtain ⟨x0, x1, x2, x3, rfl⟩ := hr.shape
  refine enterO (n := 11) (args := [.agg #[.int .i64 x0, .slice x1 x2 x3]]) Tryd.func114 rfl rfl rfl fun w0 => ?_
  refine K_seq ?_
  refine K_region ?_
  refine KA (A_box rfl) rfl fun b1 => ?_
  refine KV (R_assign rfl) rfl ?_
  refine K_nil ?_
  refine Q_then ?_
  refine K_seq ?_
  refine K_block ?_
  refine K_seq ?_
  refine K_region ?_
  refine KV (R_loadO ty30 0 rfl rfl rfl rfl (fun e => by cases e) rfl) rfl ?_
  refine K_call c118 rfl rfl (psize_spec t.size t H _ (Nat.le_refl _) (by omega) hr) ?_
  rintro _ V1 hv1 rfl
  refine KV (R_cmp rfl rfl rfl) rfl ?_
  refine KV (R_assign rfl) rfl ?_
  refine K_nil ?_
  refine Q_then ?_
  refine K_if rfl (fun h3 => ?_) (fun h3 => ?_)
  ·
    refine K_seq ?_
    refine K_region ?_
    refine KV (R_assign rfl) rfl ?_
    refine K_nil ?_
    refine Q_then ?_
    refine K_ret ?_
    refine Q_block_ret ?_
    refine Q_then_ret ?_
    refine results_gen (rs := [.tmp 2]) (vs := [_]) rfl ⟨rfl, trivial⟩ ?_
    rw [if_pos h3]
    rfl
  ·
    refine K_seq ?_
    refine K_region ?_
    refine KV (R_loadO ty30 0 rfl rfl rfl rfl (fun e => by cases e) rfl) rfl ?_
    refine K_call c119 rfl rfl (pdepth_spec t.size t V1 _ (Nat.le_refl _) (by omega) (hr.mono hv1)) ?_
    rintro _ V2 hv2 rfl
    refine KV (R_cmp rfl rfl rfl) rfl ?_
    refine KV (R_assign rfl) rfl ?_
    refine K_nil ?_
    refine Q_then ?_
    refine K_if rfl (fun h7 => ?_) (fun h7 => ?_)
    ·
      refine K_seq ?_
      refine K_region ?_
      refine KV (R_assign rfl) rfl ?_
      refine K_nil ?_
      refine Q_then ?_
      refine K_ret ?_
      refine Q_block_ret ?_
      refine Q_then_ret ?_
      refine results_gen (rs := [.tmp 2]) (vs := [_]) rfl ⟨rfl, trivial⟩ ?_
      rw [if_neg h3, if_pos h7]
      rfl
    ·
      refine K_skip ?_
      refine Q_block ?_
      refine Q_then ?_
      refine K_seq ?_
      refine K_region ?_
      refine KV (R_assign rfl) rfl ?_
      refine K_nil ?_
      refine Q_then ?_
      refine K_ret ?_
      refine results_gen (rs := [.tmp 2]) (vs := [_]) rfl ⟨rfl, trivial⟩ ?_
      rw [if_neg h3, if_neg h7]
      rfl

theorem pvalid_spec (rk : List Int) (rv : Value) (t : Tr) (H : View) (cs : List Value) (hrkl : rk.length ≤ 1048576) (hb : t.size ≤ 1073741824) (hr : RepT H t cs) (hrv : SI H rv rk) : Sat Tryd.prog F98 #[rv, .agg cs.toArray] H (fun r _ => r = .int .i64 (validErr rk t)) := by
  obtain ⟨x0, x1, x2, x3, rfl⟩ := hr.shape
  obtain ⟨va, vc, rfl⟩ := hrv.shape
  refine enterO (n := 20) (args := [.slice va rk.length vc, .agg #[.int .i64 x0, .slice x1 x2 x3]]) Tryd.func98 rfl rfl rfl fun w0 => ?_
  refine K_seq ?_
  refine K_region ?_
  refine KA (A_box rfl) rfl fun b3 => ?_
  refine KV (R_assign rfl) rfl ?_
  refine K_nil ?_
  refine Q_then ?_
  refine K_seq ?_
  refine K_seq ?_
  refine K_region ?_
  refine KV (R_move rfl) rfl ?_
  refine K_call c72 rfl rfl (acheck_spec rk _ H hrv (by omega)) ?_
  rintro _ V1 hv1 rfl
  refine KV (R_assign rfl) rfl ?_
  refine K_nil ?_
  refine Q_then ?_
  refine K_seq ?_
  refine K_region ?_
  refine KV (R_move rfl) rfl ?_
  refine KV (R_cmp rfl rfl rfl) rfl ?_
  refine K_nil ?_
  refine Q_then ?_
  refine K_if rfl (fun h10 => ?_) (fun h10 => ?_)
  ·
    refine K_seq ?_
    refine K_region ?_
    refine KV (R_move rfl) rfl ?_
    refine KV (R_assign rfl) rfl ?_
    refine K_nil ?_
    refine Q_then ?_
    refine K_ret ?_
    refine Q_then_ret ?_
    refine results_gen (rs := [.tmp 4]) (vs := [_]) rfl ⟨rfl, trivial⟩ ?_
    simp only [tupV, validErr]
    rw [if_pos h10]
  ·
    refine K_skip ?_
    refine Q_then ?_
    refine K_seq ?_
    refine K_seq ?_
    refine K_region ?_
    refine KV (R_loadO ty30 0 rfl rfl rfl rfl (fun e => by cases e) rfl) rfl ?_
    refine K_call c114 rfl rfl (psmall_spec t V1 _ hb (hr.mono hv1)) ?_
    rintro _ V2 hv2 rfl
    refine KV (R_assign rfl) rfl ?_
    refine K_nil ?_
    refine Q_then ?_
    refine K_seq ?_
    refine K_region ?_
    refine KV (R_move rfl) rfl ?_
    refine KV (R_cmp rfl rfl rfl) rfl ?_
    refine K_nil ?_
    refine Q_then ?_
    refine K_if rfl (fun h15 => ?_) (fun h15 => ?_)
    ·
      refine K_seq ?_
      refine K_region ?_
      refine KV (R_move rfl) rfl ?_
      refine KV (R_assign rfl) rfl ?_
      refine K_nil ?_
      refine Q_then ?_
      refine K_ret ?_
      refine Q_then_ret ?_
      refine results_gen (rs := [.tmp 4]) (vs := [_]) rfl ⟨rfl, trivial⟩ ?_
      simp only [tupV, validErr]
      rw [if_neg h10]
      refine congrArg (Value.int .i64) ?_
      split
      · rfl
      · split
        · rfl
        · rename_i g1 g2; rw [if_neg g1, if_neg g2] at h15; exact absurd rfl h15
    ·
      refine K_skip ?_
      refine Q_then ?_
      refine K_seq ?_
      refine K_region ?_
      refine KV (R_move rfl) rfl ?_
      refine KV (R_loadO ty30 0 rfl rfl rfl rfl (fun e => by cases e) rfl) rfl ?_
      refine K_call c115 rfl rfl (right_spec rk _ (by omega) t.size t V2 _ (Nat.le_refl _) (by omega) (hr.mono (hv1.trans hv2)) (hrv.mono (hv1.trans hv2))) ?_
      rintro _ V3 hv3 rfl
      refine KV (R_assign rfl) rfl ?_
      refine K_nil ?_
      refine Q_then ?_
      refine K_ret ?_
      refine results_gen (rs := [.tmp 4]) (vs := [_]) rfl ⟨rfl, trivial⟩ ?_
      simp only [tupV, validErr]
      rw [if_neg h10]
      refine congrArg (Value.int .i64) ?_
      split
      · rename_i g1; rw [if_pos g1] at h15; exact absurd h15 (by decide)
      · split
        · rename_i g1 g2; rw [if_neg g1, if_pos g2] at h15; exact absurd h15 (by decide)
        · rfl

theorem rvalid_spec (rk : List Int) (rv : Value) (t : Tr) (H : View) (cs : List Value) (hrkl : rk.length ≤ 1048576) (hb : t.size ≤ 1073741824) (hr : RepT H t cs) (hrv : SI H rv rk) : Sat Tryd.prog F39 #[rv, .agg cs.toArray] H (fun r _ => r = .int .i64 (validErr rk t)) := by
  obtain ⟨x0, x1, x2, x3, rfl⟩ := hr.shape
  obtain ⟨va, vc, rfl⟩ := hrv.shape
  refine enterO (n := 20) (args := [.slice va rk.length vc, .agg #[.int .i64 x0, .slice x1 x2 x3]]) Tryd.func39 rfl rfl rfl fun w0 => ?_
  refine K_seq ?_
  refine K_region ?_
  refine KA (A_box rfl) rfl fun b3 => ?_
  refine KV (R_assign rfl) rfl ?_
  refine K_nil ?_
  refine Q_then ?_
  refine K_seq ?_
  refine K_seq ?_
  refine K_region ?_
  refine KV (R_move rfl) rfl ?_
  refine K_call c36 rfl rfl (rcheck31_spec rk _ H hrv (by omega)) ?_
  rintro _ V1 hv1 rfl
  refine KV (R_assign rfl) rfl ?_
  refine K_nil ?_
  refine Q_then ?_
  refine K_seq ?_
  refine K_region ?_
  refine KV (R_move rfl) rfl ?_
  refine KV (R_cmp rfl rfl rfl) rfl ?_
  refine K_nil ?_
  refine Q_then ?_
  refine K_if rfl (fun h9 => ?_) (fun h9 => ?_)
  ·
    refine K_seq ?_
    refine K_region ?_
    refine KV (R_move rfl) rfl ?_
    refine KV (R_assign rfl) rfl ?_
    refine K_nil ?_
    refine Q_then ?_
    refine K_ret ?_
    refine Q_then_ret ?_
    refine results_gen (rs := [.tmp 4]) (vs := [_]) rfl ⟨rfl, trivial⟩ ?_
    simp only [tupV, validErr]
    rw [if_pos h9]
  ·
    refine K_skip ?_
    refine Q_then ?_
    refine K_seq ?_
    refine K_seq ?_
    refine K_region ?_
    refine KV (R_loadO ty24 0 rfl rfl rfl rfl (fun e => by cases e) rfl) rfl ?_
    refine K_call c8 rfl rfl (size_spec t.size t V1 _ (Nat.le_refl _) (by omega) (hr.mono hv1)) ?_
    rintro _ V2 hv2 rfl
    refine KV (R_cmp rfl rfl rfl) rfl ?_
    refine K_nil ?_
    refine Q_then ?_
    refine K_if rfl (fun h13 => ?_) (fun h13 => ?_)
    ·
      refine K_seq ?_
      refine K_region ?_
      refine KV (R_assign rfl) rfl ?_
      refine K_nil ?_
      refine Q_then ?_
      refine K_ret ?_
      refine Q_then_ret ?_
      refine results_gen (rs := [.tmp 4]) (vs := [_]) rfl ⟨rfl, trivial⟩ ?_
      simp only [tupV, validErr]
      rw [if_neg h9, if_pos h13]
    ·
      refine K_skip ?_
      refine Q_then ?_
      refine K_seq ?_
      refine K_seq ?_
      refine K_region ?_
      refine KV (R_loadO ty24 0 rfl rfl rfl rfl (fun e => by cases e) rfl) rfl ?_
      refine K_call c9 rfl rfl (deep_spec t.size t V2 _ (Nat.le_refl _) (by omega) (hr.mono (hv1.trans hv2))) ?_
      rintro _ V3 hv3 rfl
      refine KV (R_cmp rfl rfl rfl) rfl ?_
      refine K_nil ?_
      refine Q_then ?_
      refine K_if rfl (fun h16 => ?_) (fun h16 => ?_)
      ·
        refine K_seq ?_
        refine K_region ?_
        refine KV (R_assign rfl) rfl ?_
        refine K_nil ?_
        refine Q_then ?_
        refine K_ret ?_
        refine Q_then_ret ?_
        refine results_gen (rs := [.tmp 4]) (vs := [_]) rfl ⟨rfl, trivial⟩ ?_
        simp only [tupV, validErr]
        rw [if_neg h9, if_neg h13, if_pos h16]
      ·
        refine K_skip ?_
        refine Q_then ?_
        refine K_seq ?_
        refine K_region ?_
        refine KV (R_move rfl) rfl ?_
        refine KV (R_loadO ty24 0 rfl rfl rfl rfl (fun e => by cases e) rfl) rfl ?_
        refine K_call c75 rfl rfl (rnodes_spec rk _ (by omega) t.size t V3 _ (Nat.le_refl _) (by omega) (hr.mono (hv1.trans (hv2.trans hv3))) (hrv.mono (hv1.trans (hv2.trans hv3)))) ?_
        rintro _ V4 hv4 rfl
        refine KV (R_assign rfl) rfl ?_
        refine K_nil ?_
        refine Q_then ?_
        refine K_ret ?_
        refine results_gen (rs := [.tmp 4]) (vs := [_]) rfl ⟨rfl, trivial⟩ ?_
        simp only [tupV, validErr]
        rw [if_neg h9, if_neg h13, if_neg h16]
end Go.Proofs.X

namespace Go.Proofs.X
open Go Pal Go.Proofs
attribute [local irreducible] Pal.KO Pal.KC Pal.KQ Pal.KD
theorem c63 : callable Tryd.prog F63 = true := by kernel_rfl
theorem c65 : callable Tryd.prog F65 = true := by kernel_rfl
theorem c73 : callable Tryd.prog F73 = true := by kernel_rfl
theorem c74 : callable Tryd.prog F74 = true := by kernel_rfl
theorem c76 : callable Tryd.prog F76 = true := by kernel_rfl
theorem c91 : callable Tryd.prog F91 = true := by kernel_rfl
theorem c98 : callable Tryd.prog F98 = true := by kernel_rfl
theorem c99 : callable Tryd.prog F99 = true := by kernel_rfl
theorem maps_spec (ls src dst : List Int) (v1 v2 v3 : Value) (H : View) (h1 : SI H v1 ls) (h2 : SI H v2 src) (h3 : SI H v3 dst) (hb1 : ls.length ≤ 1099511627776) : Sat Tryd.prog F37 #[v1, v2, v3] H (fun r _ => r = .bool (mapsM ls src dst)) := by
  obtain ⟨a1, k1, rfl⟩ := h1.shape
  obtain ⟨a2, k2, rfl⟩ := h2.shape
  obtain ⟨a3, k3, rfl⟩ := h3.shape
  refine enterO (n := 47) (args := [.slice a1 ls.length k1, .slice a2 src.length k2, .slice a3 dst.length k3]) Tryd.func37 rfl rfl rfl fun w0 => ?_
  refine K_seq ?_
  refine K_region ?_
  refine KV (R_assign rfl) rfl ?_
  refine K_nil ?_
  refine Q_then ?_
  refine K_seq ?_
  refine K_seq ?_
  refine K_region ?_
  refine KV (R_move rfl) rfl ?_
  refine KV (R_len sl25 rfl) rfl ?_
  refine KV (R_move rfl) rfl ?_
  refine KV (R_len sl25 rfl) rfl ?_
  refine KV (R_cmp rfl rfl rfl) rfl ?_
  refine K_nil ?_
  refine Q_then ?_
  refine K_if rfl (fun h12 => ?_) (fun h12 => ?_)
  ·
    refine K_seq ?_
    refine K_region ?_
    refine KV (R_assign rfl) rfl ?_
    refine K_nil ?_
    refine Q_then ?_
    refine K_ret ?_
    refine Q_then_ret ?_
    refine results_gen (rs := [.tmp 6]) (vs := [_]) rfl ⟨rfl, trivial⟩ ?_
    refine congrArg Value.bool (Eq.symm ?_)
    first
      | exact mapsM_iff.2 ⟨by omega, fun j h h2 => hyes j h h2 (by omega)⟩
      | (rw [Bool.eq_false_iff]; intro hm; obtain ⟨g1, g2⟩ := mapsM_iff.1 hm; first | omega | (have g3 := g2 k hk' hk2; first | omega | (rw [hgd] at g3; omega)))
  ·
    refine K_skip ?_
    refine Q_then ?_
    refine K_seq ?_
    refine K_seq ?_
    refine K_region ?_
    refine KV (R_assign rfl) rfl ?_
    refine K_nil ?_
    refine Q_then ?_
    refine K_block ?_
    refine K_loopD (G := Nat) [6, 7, 13, 14, 15, 16, 17, 18, 19, 20, 21, 22, 23, 24, 25, 26, 27, 28, 29, 30, 31, 32, 33, 34, 35, 36, 37, 38, 39, 40, 41, 42, 43, 44, 45, 46] (fun g => [(7, .int .i64 (g : Int))]) (fun hl g => hl) (fun g => H) (fun g => (g ≤ ls.length) ∧ (∀ j (h : j < ls.length) (h2 : j < src.length), j < g → (0 ≤ ls[j] ∧ ls[j] < dst.length) ∧ dst.getD ls[j].toNat 0 = src[j])) (fun g => ls.length - g) 0 ⟨Nat.zero_le _, fun j _ _ h => by simp at h⟩ ⟨rfl, trivial⟩ (by simp only [args0, Nat.reduceAdd, del, memN, beqN, Nat.reduceBEq, cond_true, cond_false]; rfl) rfl rfl ?_
    rintro k ⟨hk, hyes⟩
    try dsimp only at hk
    try dsimp only at hyes
    dsimp only [List.set, List.cons_append, List.nil_append]
    refine K_seq ?_
    refine K_seq ?_
    refine K_region ?_
    refine KV (R_move rfl) rfl ?_
    refine KV (R_move rfl) rfl ?_
    refine KV (R_len sl25 rfl) rfl ?_
    refine KV (R_cmp rfl rfl rfl) rfl ?_
    refine K_nil ?_
    refine Q_then ?_
    refine K_if rfl (fun h16 => ?_) (fun h16 => ?_)
    ·
      have hk' : k < ls.length := by omega
      have hk2 : k < src.length := by omega
      obtain ⟨tb, to_, hte, hta⟩ := h1.get hk'
      cases hte
      obtain ⟨sb, so, hse, hsx⟩ := h2.get hk2
      cases hse
      refine K_skip ?_
      refine Q_then ?_
      refine K_seq ?_
      refine K_block ?_
      refine K_seq ?_
      refine K_regionD (fin := false) (R := [0, 1, 2, 3, 4, 5, 6, 7, 8, 9, 10, 11, 12, 13, 14, 15, 16, 17, 18, 19, 20, 21, 22, 23, 24, 25, 26, 27]) (by kernel_rfl) mixed (List.nil_sublist _) ?_
      refine D_val rfl rfl rfl (R_move rfl) ?_
      refine D_val rfl rfl rfl (R_move rfl) ?_
      refine D_val rfl rfl rfl (R_indexN sl25 ty3 rfl rfl (by omega)) ?_
      refine D_val rfl rfl rfl (R_loadH ty3 rfl (hta) rfl (fun _ => rfl) rfl) ?_
      refine D_val rfl rfl rfl (R_cmp rfl rfl rfl) ?_
      refine D_val rfl rfl rfl (R_move rfl) ?_
      refine D_split ?_ ?_
      ·
        intro h24
        refine D_skip rfl rfl ?_
        refine D_skip rfl rfl ?_
        refine D_skip rfl rfl ?_
        refine D_skip rfl rfl ?_
        refine D_skip rfl rfl ?_
        refine D_skip rfl rfl ?_
        refine D_skip rfl rfl ?_
        refine D_val rfl rfl rfl (R_pickT rfl rfl) ?_
        refine D_val rfl rfl rfl (R_move rfl) ?_
        refine D_skip rfl rfl ?_
        refine D_skip rfl rfl ?_
        refine D_skip rfl rfl ?_
        refine D_skip rfl rfl ?_
        refine D_skip rfl rfl ?_
        refine D_skip rfl rfl ?_
        refine D_skip rfl rfl ?_
        refine D_skip rfl rfl ?_
        refine D_skip rfl rfl ?_
        refine D_skip rfl rfl ?_
        refine D_skip rfl rfl ?_
        refine D_skip rfl rfl ?_
        refine D_val rfl rfl rfl (R_pickT rfl rfl) ?_
        refine D_done ?_
        refine Q_then ?_
        refine K_ifT rfl ?_
        refine K_seq ?_
        refine K_region ?_
        refine KV (R_assign rfl) rfl ?_
        refine K_nil ?_
        refine Q_then ?_
        refine K_ret ?_
        refine Q_block_ret ?_
        refine Q_then_ret ?_
        refine Q_then_ret ?_
        refine Q_block_ret ?_
        refine Q_then_ret ?_
        refine results_gen (rs := [.tmp 6]) (vs := [_]) rfl ⟨rfl, trivial⟩ ?_
        refine congrArg Value.bool (Eq.symm ?_)
        first
          | exact mapsM_iff.2 ⟨by omega, fun j h h2 => hyes j h h2 (by omega)⟩
          | (rw [Bool.eq_false_iff]; intro hm; obtain ⟨g1, g2⟩ := mapsM_iff.1 hm; first | omega | (have g3 := g2 k hk' hk2; first | omega | (rw [hgd] at g3; omega)))
      ·
        intro h24
        refine D_val rfl rfl rfl (R_move rfl) ?_
        refine D_val rfl rfl rfl (R_move rfl) ?_
        refine D_val rfl rfl rfl (R_indexN sl25 ty3 rfl rfl (by omega)) ?_
        refine D_val rfl rfl rfl (R_loadH ty3 rfl (hta) rfl (fun _ => rfl) rfl) ?_
        refine D_val rfl rfl rfl (R_move rfl) ?_
        refine D_val rfl rfl rfl (R_len sl25 rfl) ?_
        refine D_val rfl rfl rfl (R_cmp rfl rfl rfl) ?_
        refine D_val rfl rfl rfl (R_pickF rfl rfl) ?_
        refine D_val rfl rfl rfl (R_move rfl) ?_
        refine D_split ?_ ?_
        ·
          intro h33
          refine D_skip rfl rfl ?_
          refine D_skip rfl rfl ?_
          refine D_skip rfl rfl ?_
          refine D_skip rfl rfl ?_
          refine D_skip rfl rfl ?_
          refine D_skip rfl rfl ?_
          refine D_skip rfl rfl ?_
          refine D_skip rfl rfl ?_
          refine D_skip rfl rfl ?_
          refine D_skip rfl rfl ?_
          refine D_skip rfl rfl ?_
          refine D_skip rfl rfl ?_
          refine D_val rfl rfl rfl (R_pickT rfl rfl) ?_
          refine D_done ?_
          refine Q_then ?_
          refine K_ifT rfl ?_
          refine K_seq ?_
          refine K_region ?_
          refine KV (R_assign rfl) rfl ?_
          refine K_nil ?_
          refine Q_then ?_
          refine K_ret ?_
          refine Q_block_ret ?_
          refine Q_then_ret ?_
          refine Q_then_ret ?_
          refine Q_block_ret ?_
          refine Q_then_ret ?_
          refine results_gen (rs := [.tmp 6]) (vs := [_]) rfl ⟨rfl, trivial⟩ ?_
          refine congrArg Value.bool (Eq.symm ?_)
          first
            | exact mapsM_iff.2 ⟨by omega, fun j h h2 => hyes j h h2 (by omega)⟩
            | (rw [Bool.eq_false_iff]; intro hm; obtain ⟨g1, g2⟩ := mapsM_iff.1 hm; first | omega | (have g3 := g2 k hk' hk2; first | omega | (rw [hgd] at g3; omega)))
        ·
          intro h33
          have hx1 : ls[k].toNat < dst.length := by omega
          obtain ⟨db, do_, hde, hdx⟩ := h3.get hx1
          cases hde
          have hgd : dst.getD ls[k].toNat 0 = dst[ls[k].toNat] := by simp [List.getD, hx1]
          refine D_val rfl rfl rfl (R_move rfl) ?_
          refine D_val rfl rfl rfl (R_move rfl) ?_
          refine D_val rfl rfl rfl (R_move rfl) ?_
          refine D_val rfl rfl rfl (R_indexN sl25 ty3 rfl rfl (by omega)) ?_
          refine D_val rfl rfl rfl (R_loadH ty3 rfl (hta) rfl (fun _ => rfl) rfl) ?_
          refine D_val rfl rfl rfl (R_index sl25 ty3 rfl rfl ⟨by omega, by omega⟩) ?_
          refine D_val rfl rfl rfl (R_loadH ty3 rfl (hdx) rfl (fun _ => rfl) rfl) ?_
          refine D_val rfl rfl rfl (R_move rfl) ?_
          refine D_val rfl rfl rfl (R_move rfl) ?_
          refine D_val rfl rfl rfl (R_indexN sl25 ty3 rfl rfl (by omega)) ?_
          refine D_val rfl rfl rfl (R_loadH ty3 rfl (hsx) rfl (fun _ => rfl) rfl) ?_
          refine D_val rfl rfl rfl (R_cmp rfl rfl rfl) ?_
          refine D_val rfl rfl rfl (R_pickF rfl rfl) ?_
          refine D_done ?_
          refine Q_then ?_
          refine K_if rfl (fun h46 => ?_) (fun h46 => ?_)
          ·
            refine K_seq ?_
            refine K_region ?_
            refine KV (R_assign rfl) rfl ?_
            refine K_nil ?_
            refine Q_then ?_
            refine K_ret ?_
            refine Q_block_ret ?_
            refine Q_then_ret ?_
            refine Q_then_ret ?_
            refine Q_block_ret ?_
            refine Q_then_ret ?_
            refine results_gen (rs := [.tmp 6]) (vs := [_]) rfl ⟨rfl, trivial⟩ ?_
            refine congrArg Value.bool (Eq.symm ?_)
            first
              | exact mapsM_iff.2 ⟨by omega, fun j h h2 => hyes j h h2 (by omega)⟩
              | (rw [Bool.eq_false_iff]; intro hm; obtain ⟨g1, g2⟩ := mapsM_iff.1 hm; first | omega | (have g3 := g2 k hk' hk2; first | omega | (rw [hgd] at g3; omega)))
          ·
            have hyes2 : ∀ j (h : j < ls.length) (h2 : j < src.length), j < k + 1 → (0 ≤ ls[j] ∧ ls[j] < dst.length) ∧ dst.getD ls[j].toNat 0 = src[j] := by
              intro j h h2 hj
              by_cases e : j = k
              · subst e; exact ⟨by omega, by rw [hgd]; omega⟩
              · exact hyes j h h2 (by omega)
            refine K_skip ?_
            refine Q_block ?_
            refine Q_then ?_
            refine K_region ?_
            refine KV (R_move rfl) rfl ?_
            refine KV (R_add rfl rfl (by omega)) rfl ?_
            refine KV (R_assign rfl) rfl ?_
            refine K_nil ?_
            refine Q_nextD (k + 1) ⟨hk', hyes2⟩ (by (try dsimp only); omega) ⟨rfl, trivial⟩ rfl rfl rfl
    ·
      have hk' : k = ls.length := by omega
      refine K_exit ?_
      refine Q_then_exit ?_
      refine Q_then_exit ?_
      refine Q_block_exit ?_
      refine Q_then ?_
      refine K_seq ?_
      refine K_region ?_
      refine KV (R_assign rfl) rfl ?_
      refine K_nil ?_
      refine Q_then ?_
      refine K_ret ?_
      refine results_gen (rs := [.tmp 6]) (vs := [_]) rfl ⟨rfl, trivial⟩ ?_
      refine congrArg Value.bool (Eq.symm ?_)
      first
        | exact mapsM_iff.2 ⟨by omega, fun j h h2 => hyes j h h2 (by omega)⟩
        | (rw [Bool.eq_false_iff]; intro hm; obtain ⟨g1, g2⟩ := mapsM_iff.1 hm; first | omega | (have g3 := g2 k hk' hk2; first | omega | (rw [hgd] at g3; omega)))

theorem relab_spec (ls src dst : List Int) (v1 v2 v3 : Value) (H : View) (h1 : SI H v1 ls) (h2 : SI H v2 src) (h3 : SI H v3 dst) (hb1 : ls.length ≤ 1099511627776) : Sat Tryd.prog F73 #[v1, v2, v3] H (fun r _ => r = .bool (mapsM ls src dst)) := by
  obtain ⟨a1, k1, rfl⟩ := h1.shape
  obtain ⟨a2, k2, rfl⟩ := h2.shape
  obtain ⟨a3, k3, rfl⟩ := h3.shape
  refine enterO (n := 41) (args := [.slice a1 ls.length k1, .slice a2 src.length k2, .slice a3 dst.length k3]) Tryd.func73 rfl rfl rfl fun w0 => ?_
  refine K_seq ?_
  refine K_region ?_
  refine KV (R_assign rfl) rfl ?_
  refine K_nil ?_
  refine Q_then ?_
  refine K_seq ?_
  refine K_seq ?_
  refine K_region ?_
  refine KV (R_move rfl) rfl ?_
  refine KV (R_len sl25 rfl) rfl ?_
  refine KV (R_move rfl) rfl ?_
  refine KV (R_len sl47 rfl) rfl ?_
  refine KV (R_cmp rfl rfl rfl) rfl ?_
  refine K_nil ?_
  refine Q_then ?_
  refine K_if rfl (fun h13 => ?_) (fun h13 => ?_)
  ·
    refine K_seq ?_
    refine K_region ?_
    refine KV (R_assign rfl) rfl ?_
    refine K_nil ?_
    refine Q_then ?_
    refine K_ret ?_
    refine Q_then_ret ?_
    refine results_gen (rs := [.tmp 6]) (vs := [_]) rfl ⟨rfl, trivial⟩ ?_
    refine congrArg Value.bool (Eq.symm ?_)
    first
      | exact mapsM_iff.2 ⟨by omega, fun j h h2 => hyes j h h2 (by omega)⟩
      | (rw [Bool.eq_false_iff]; intro hm; obtain ⟨g1, g2⟩ := mapsM_iff.1 hm; first | omega | (have g3 := g2 k hk' hk2; first | omega | (rw [hgd] at g3; omega)))
  ·
    refine K_skip ?_
    refine Q_then ?_
    refine K_seq ?_
    refine K_seq ?_
    refine K_region ?_
    refine KV (R_move rfl) rfl ?_
    refine KV (R_len sl25 rfl) rfl ?_
    refine KV (R_move rfl) rfl ?_
    refine K_nil ?_
    refine Q_then ?_
    refine K_block ?_
    refine K_loopD (G := Nat) [6, 7, 8, 16, 17, 18, 19, 20, 21, 22, 23, 24, 25, 26, 27, 28, 29, 30, 31, 32, 33, 34, 35, 36, 37, 38, 39, 40] (fun g => [(16, .int .i64 (g : Int))]) (fun hl g => hl) (fun g => H) (fun g => (g ≤ ls.length) ∧ (∀ j (h : j < ls.length) (h2 : j < src.length), j < g → (0 ≤ ls[j] ∧ ls[j] < dst.length) ∧ dst.getD ls[j].toNat 0 = src[j])) (fun g => ls.length - g) 0 ⟨Nat.zero_le _, fun j _ _ h => by simp at h⟩ ⟨rfl, trivial⟩ (by simp only [args0, Nat.reduceAdd, del, memN, beqN, Nat.reduceBEq, cond_true, cond_false]; rfl) rfl rfl ?_
    rintro k ⟨hk, hyes⟩
    try dsimp only at hk
    try dsimp only at hyes
    dsimp only [List.set, List.cons_append, List.nil_append]
    refine K_seq ?_
    refine K_region ?_
    refine KV (R_cmp rfl rfl rfl) rfl ?_
    refine K_nil ?_
    refine Q_then ?_
    refine K_seq ?_
    refine K_if rfl (fun h17 => ?_) (fun h17 => ?_)
    ·
      have hk' : k < ls.length := by omega
      have hk2 : k < src.length := by omega
      obtain ⟨tb, to_, hte, hta⟩ := h1.get hk'
      cases hte
      obtain ⟨sb, so, hse, hsx⟩ := h2.get hk2
      cases hse
      refine K_skip ?_
      refine Q_then ?_
      refine K_seq ?_
      refine K_block ?_
      refine K_seq ?_
      refine K_region ?_
      refine KV (R_move rfl) rfl ?_
      refine KV (R_indexN sl25 ty3 rfl rfl (by omega)) rfl ?_
      refine KV (R_loadH ty3 rfl (hta) rfl (fun _ => rfl) rfl) rfl ?_
      refine KV (R_assign rfl) rfl ?_
      refine KV (R_assign rfl) rfl ?_
      refine K_nil ?_
      refine Q_then ?_
      refine K_seq ?_
      refine K_regionD (fin := false) (R := [0, 1, 2, 3, 4, 5, 6, 7, 8, 9, 10, 11, 12, 13, 14, 15, 16, 17, 18]) (by kernel_rfl) mixed (List.nil_sublist _) ?_
      refine D_val rfl rfl rfl (R_move rfl) ?_
      refine D_val rfl rfl rfl (R_cmp rfl rfl rfl) ?_
      refine D_val rfl rfl rfl (R_move rfl) ?_
      refine D_split ?_ ?_
      ·
        intro h23
        refine D_skip rfl rfl ?_
        refine D_skip rfl rfl ?_
        refine D_skip rfl rfl ?_
        refine D_skip rfl rfl ?_
        refine D_val rfl rfl rfl (R_pickT rfl rfl) ?_
        refine D_val rfl rfl rfl (R_move rfl) ?_
        refine D_skip rfl rfl ?_
        refine D_skip rfl rfl ?_
        refine D_skip rfl rfl ?_
        refine D_skip rfl rfl ?_
        refine D_skip rfl rfl ?_
        refine D_skip rfl rfl ?_
        refine D_skip rfl rfl ?_
        refine D_skip rfl rfl ?_
        refine D_skip rfl rfl ?_
        refine D_val rfl rfl rfl (R_pickT rfl rfl) ?_
        refine D_done ?_
        refine Q_then ?_
        refine K_ifT rfl ?_
        refine K_seq ?_
        refine K_region ?_
        refine KV (R_assign rfl) rfl ?_
        refine K_nil ?_
        refine Q_then ?_
        refine K_ret ?_
        refine Q_block_ret ?_
        refine Q_then_ret ?_
        refine Q_then_ret ?_
        refine Q_block_ret ?_
        refine Q_then_ret ?_
        refine results_gen (rs := [.tmp 6]) (vs := [_]) rfl ⟨rfl, trivial⟩ ?_
        refine congrArg Value.bool (Eq.symm ?_)
        first
          | exact mapsM_iff.2 ⟨by omega, fun j h h2 => hyes j h h2 (by omega)⟩
          | (rw [Bool.eq_false_iff]; intro hm; obtain ⟨g1, g2⟩ := mapsM_iff.1 hm; first | omega | (have g3 := g2 k hk' hk2; first | omega | (rw [hgd] at g3; omega)))
      ·
        intro h23
        refine D_val rfl rfl rfl (R_move rfl) ?_
        refine D_val rfl rfl rfl (R_move rfl) ?_
        refine D_val rfl rfl rfl (R_len sl47 rfl) ?_
        refine D_val rfl rfl rfl (R_cmp rfl rfl rfl) ?_
        refine D_val rfl rfl rfl (R_pickF rfl rfl) ?_
        refine D_val rfl rfl rfl (R_move rfl) ?_
        refine D_split ?_ ?_
        ·
          intro h29
          refine D_skip rfl rfl ?_
          refine D_skip rfl rfl ?_
          refine D_skip rfl rfl ?_
          refine D_skip rfl rfl ?_
          refine D_skip rfl rfl ?_
          refine D_skip rfl rfl ?_
          refine D_skip rfl rfl ?_
          refine D_skip rfl rfl ?_
          refine D_skip rfl rfl ?_
          refine D_val rfl rfl rfl (R_pickT rfl rfl) ?_
          refine D_done ?_
          refine Q_then ?_
          refine K_ifT rfl ?_
          refine K_seq ?_
          refine K_region ?_
          refine KV (R_assign rfl) rfl ?_
          refine K_nil ?_
          refine Q_then ?_
          refine K_ret ?_
          refine Q_block_ret ?_
          refine Q_then_ret ?_
          refine Q_then_ret ?_
          refine Q_block_ret ?_
          refine Q_then_ret ?_
          refine results_gen (rs := [.tmp 6]) (vs := [_]) rfl ⟨rfl, trivial⟩ ?_
          refine congrArg Value.bool (Eq.symm ?_)
          first
            | exact mapsM_iff.2 ⟨by omega, fun j h h2 => hyes j h h2 (by omega)⟩
            | (rw [Bool.eq_false_iff]; intro hm; obtain ⟨g1, g2⟩ := mapsM_iff.1 hm; first | omega | (have g3 := g2 k hk' hk2; first | omega | (rw [hgd] at g3; omega)))
        ·
          intro h29
          have hx1 : ls[k].toNat < dst.length := by omega
          obtain ⟨db, do_, hde, hdx⟩ := h3.get hx1
          cases hde
          have hgd : dst.getD ls[k].toNat 0 = dst[ls[k].toNat] := by simp [List.getD, hx1]
          refine D_val rfl rfl rfl (R_move rfl) ?_
          refine D_val rfl rfl rfl (R_move rfl) ?_
          refine D_val rfl rfl rfl (R_index sl47 ty3 rfl rfl ⟨by omega, by omega⟩) ?_
          refine D_val rfl rfl rfl (R_loadH ty3 rfl (hdx) rfl (fun _ => rfl) rfl) ?_
          refine D_val rfl rfl rfl (R_move rfl) ?_
          refine D_val rfl rfl rfl (R_move rfl) ?_
          refine D_val rfl rfl rfl (R_indexN sl47 ty3 rfl rfl (by omega)) ?_
          refine D_val rfl rfl rfl (R_loadH ty3 rfl (hsx) rfl (fun _ => rfl) rfl) ?_
          refine D_val rfl rfl rfl (R_cmp rfl rfl rfl) ?_
          refine D_val rfl rfl rfl (R_pickF rfl rfl) ?_
          refine D_done ?_
          refine Q_then ?_
          refine K_if rfl (fun h39 => ?_) (fun h39 => ?_)
          ·
            refine K_seq ?_
            refine K_region ?_
            refine KV (R_assign rfl) rfl ?_
            refine K_nil ?_
            refine Q_then ?_
            refine K_ret ?_
            refine Q_block_ret ?_
            refine Q_then_ret ?_
            refine Q_then_ret ?_
            refine Q_block_ret ?_
            refine Q_then_ret ?_
            refine results_gen (rs := [.tmp 6]) (vs := [_]) rfl ⟨rfl, trivial⟩ ?_
            refine congrArg Value.bool (Eq.symm ?_)
            first
              | exact mapsM_iff.2 ⟨by omega, fun j h h2 => hyes j h h2 (by omega)⟩
              | (rw [Bool.eq_false_iff]; intro hm; obtain ⟨g1, g2⟩ := mapsM_iff.1 hm; first | omega | (have g3 := g2 k hk' hk2; first | omega | (rw [hgd] at g3; omega)))
          ·
            have hyes2 : ∀ j (h : j < ls.length) (h2 : j < src.length), j < k + 1 → (0 ≤ ls[j] ∧ ls[j] < dst.length) ∧ dst.getD ls[j].toNat 0 = src[j] := by
              intro j h h2 hj
              by_cases e : j = k
              · subst e; exact ⟨by omega, by rw [hgd]; omega⟩
              · exact hyes j h h2 (by omega)
            refine K_skip ?_
            refine Q_block ?_
            refine Q_then ?_
            refine K_region ?_
            refine KV (R_add rfl rfl (by omega)) rfl ?_
            refine KV (R_move rfl) rfl ?_
            refine K_nil ?_
            refine Q_nextD (k + 1) ⟨hk', hyes2⟩ (by (try dsimp only); omega) ⟨rfl, trivial⟩ rfl rfl rfl
    ·
      have hk' : k = ls.length := by omega
      refine K_exit ?_
      refine Q_then_exit ?_
      refine Q_then_exit ?_
      refine Q_block_exit ?_
      refine Q_then ?_
      refine K_seq ?_
      refine K_region ?_
      refine KV (R_assign rfl) rfl ?_
      refine K_nil ?_
      refine Q_then ?_
      refine K_ret ?_
      refine results_gen (rs := [.tmp 6]) (vs := [_]) rfl ⟨rfl, trivial⟩ ?_
      refine congrArg Value.bool (Eq.symm ?_)
      first
        | exact mapsM_iff.2 ⟨by omega, fun j h h2 => hyes j h h2 (by omega)⟩
        | (rw [Bool.eq_false_iff]; intro hm; obtain ⟨g1, g2⟩ := mapsM_iff.1 hm; first | omega | (have g3 := g2 k hk' hk2; first | omega | (rw [hgd] at g3; omega)))

theorem cloneb_spec (xs : List Bool) (v : Value) (H : View) (hv : SB H v xs) (hl : xs.length ≤ 1099511627776) : Sat Tryd.prog F74 #[v] H (fun w H' => SB H' w xs) := by
  obtain ⟨a, cp, rfl⟩ := hv.shape
  refine enterO (n := 8) (args := [.slice a xs.length cp]) Tryd.func74 rfl rfl rfl fun w0 => ?_
  refine K_seq ?_
  refine K_region ?_
  refine KV (R_assign rfl) rfl ?_
  refine K_nil ?_
  refine Q_then ?_
  refine K_seq ?_
  refine K_seq ?_
  refine K_region ?_
  refine KV (R_move rfl) rfl ?_
  refine KV (R_sliceNil sl52 rfl rfl) rfl ?_
  refine K_nil ?_
  refine Q_then ?_
  cases a with
  | none =>
    obtain ⟨a2, c2, h2, h3⟩ := hv
    cases h2
    have hx0 : xs = [] := by
      rcases h3 with ⟨h3, _⟩ | ⟨b, off, h3, _⟩
      · exact List.eq_nil_of_length_eq_zero h3
      · cases h3
    subst hx0
    refine K_ifT rfl ?_
    refine K_seq ?_
    refine K_region ?_
    refine KV (R_assign rfl) rfl ?_
    refine K_nil ?_
    refine Q_then ?_
    refine K_ret ?_
    refine Q_then_ret ?_
    refine results_gen (rs := [.tmp 2]) (vs := [_]) rfl ⟨rfl, trivial⟩ ?_
    exact ⟨none, 0, rfl, .inl ⟨rfl, rfl⟩⟩
  | some aa =>
    refine K_ifF rfl ?_
    refine K_skip ?_
    refine Q_then ?_
    refine K_seq ?_
    refine K_region ?_
    refine KA (A_buildSlice (vs := []) sl52 ty4 z4 rfl rfl (by simp) (by simp) rfl (by decide)) rfl fun b5 => ?_
    refine KV (R_move rfl) rfl ?_
    refine K_append0 0 ap52 sl52 rfl rfl rfl hv (by simp [bools]) (bools_one _) ⟨by omega, by omega⟩ rfl fun a7 k7 => ?_
    refine KV (R_assign rfl) rfl ?_
    refine K_nil ?_
    refine Q_then ?_
    refine K_ret ?_
    refine KQ_pubrow rfl fun Hp hp hrow => ?_
    refine results_gen (rs := [.tmp 2]) (vs := [_]) rfl ⟨rfl, trivial⟩ ?_
    exact hrow.sl

theorem rinv_spec (d : Dt) (ls rk : List Int) (v1 v2 v3 w1 w2 : Value) (H : View) (hd : RepDt H d v1 v2 v3) (h1 : SI H w1 ls) (h2 : SI H w2 rk) (hl : ls.length = rk.length) (hb : rk.length ≤ 1048576) (hx : ∀ x ∈ ls, 0 ≤ x ∧ x < (d.to.length : Int)) :
    Sat Tryd.prog F38 #[.agg #[v1, v2, v3], w1, w2] H (fun r H' => ∃ u1 u2 u3, r = .agg #[u1, u2, u3] ∧ RepDt H' (invD d ls rk) u1 u2 u3) := by
  obtain ⟨a1, k1, rfl⟩ := h1.shape
  obtain ⟨a2, k2, rfl⟩ := h2.shape
  obtain ⟨ua1, uc1x, rfl⟩ := hd.r.shape
  obtain ⟨ua2, uc2x, rfl⟩ := hd.a.shape
  obtain ⟨ua3, uc3x, rfl⟩ := hd.t.shape
  refine enterO (n := 33) (args := [.agg #[.slice ua1 d.ranks.length uc1x, .slice ua2 d.acc.length uc2x, .slice ua3 d.to.length uc3x], .slice a1 ls.length k1, .slice a2 rk.length k2]) Tryd.func38 rfl rfl rfl fun w0 => ?_
  refine K_seq ?_
  refine K_region ?_
  refine KA (A_box rfl) rfl fun b3 => ?_
  refine KA (A_alloc z63) rfl fun b6 => ?_
  refine K_nil ?_
  refine Q_then ?_
  refine K_seq ?_
  refine K_region ?_
  refine KV (R_move rfl) rfl ?_
  refine KV (R_fieldAddr 1 fd63_1 rfl) rfl ?_
  refine KV (R_loadO ty52 1 rfl rfl rfl rfl (fun _ => rfl) rfl) rfl ?_
  refine KV (R_build z63 pl63 rfl rfl) rfl ?_
  refine KA (A_alloc z63) rfl fun b7 => ?_
  refine K_store ty63 0 rfl rfl rfl rfl rfl rfl ?_
  refine K_nil ?_
  refine Q_then ?_
  refine K_seq ?_
  refine K_seq ?_
  refine K_region ?_
  refine KV (R_assign rfl) rfl ?_
  refine K_nil ?_
  refine Q_then ?_
  refine K_block ?_
  refine K_nilrow T25 1 ?_
  refine K_loopD (G := Nat × Value × List Value) [8, 13, 14, 15, 16, 17, 18, 19, 20, 21, 22, 23, 24, 25, 26, 27, 28, 29, 30, 31] (fun g => [(8, .int .i64 (g.1 : Int))]) (fun hl g => ((hl.set 0 (row g.2.1 T25 1 g.1 g.2.2)).set 1 (blk b7 (.cells #[.slice a2 rk.length k2, .slice ua2 d.acc.length uc2x, g.2.1] T63 (0, 0))))) (fun g => H) (fun g => (g.1 ≤ rk.length) ∧ (RepL (RSI H) 1 ((ls.take g.1).map fun s => d.to.getD s.toNat []) g.2.2) ∧ (∃ ad cp, g.2.1 = .slice ad g.1 cp)) (fun g => rk.length - g.1) (0, nilS, []) ⟨Nat.zero_le _, .nil, none, 0, rfl⟩ ⟨rfl, trivial⟩ (by simp only [args0, Nat.reduceAdd, del, memN, beqN, Nat.reduceBEq, cond_true, cond_false]; rfl) rfl rfl ?_
  rintro ⟨k, w, cells⟩ ⟨hk, hC, hw⟩
  dsimp only at hk hC hw
  dsimp only [List.set, List.cons_append, List.nil_append]
  obtain ⟨wa, wcp, rfl⟩ := hw
  refine K_seq ?_
  refine K_seq ?_
  refine K_region ?_
  refine KV (R_move rfl) rfl ?_
  refine KV (R_move rfl) rfl ?_
  refine KV (R_len sl25 rfl) rfl ?_
  refine KV (R_cmp rfl rfl rfl) rfl ?_
  refine K_nil ?_
  refine Q_then ?_
  refine K_if rfl (fun h16 => ?_) (fun h16 => ?_)
  ·
    have hk' : k < rk.length := by omega
    have hk1 : k < ls.length := by omega
    obtain ⟨tb, to_, hte, hta⟩ := h1.get hk1
    cases hte
    obtain ⟨hx0, hx1⟩ := hx _ (List.getElem_mem hk1)
    have hxl : ls[k].toNat < d.to.length := by omega
    obtain ⟨db, do_, ea, ecp, hde, htx, hes⟩ := hd.t.get hxl
    cases hde
    have hgd : d.to.getD ls[k].toNat [] = d.to[ls[k].toNat] := by simp [List.getD, hxl]
    refine K_skip ?_
    refine Q_then ?_
    refine K_seq ?_
    refine K_block ?_
    refine K_regionD (fin := true) (R := [0, 1, 2, 3, 4, 5, 6, 7, 8, 9, 10, 11, 12, 13]) (by kernel_rfl) mixed (.cons _ (.cons_cons _ (.cons_cons _ (.cons_cons _ (List.nil_sublist _))))) ?_
    refine D_val rfl rfl rfl (R_fieldAddr 2 fd63_2 rfl) ?_
    refine D_val rfl rfl rfl (R_loadO ty44 0 rfl rfl rfl rfl (fun _ => rfl) rfl) ?_
    refine D_val rfl rfl rfl (R_fieldAddr 2 fd63_2 rfl) ?_
    refine D_val rfl rfl rfl (R_loadO ty44 2 rfl rfl rfl rfl (fun _ => rfl) rfl) ?_
    refine D_val rfl rfl rfl (R_move rfl) ?_
    refine D_val rfl rfl rfl (R_move rfl) ?_
    refine D_val rfl rfl rfl (R_indexN sl25 ty3 rfl rfl (by omega)) ?_
    refine D_val rfl rfl rfl (R_loadH ty3 rfl (hta) rfl (fun _ => rfl) rfl) ?_
    refine D_val rfl rfl rfl (R_index sl44 ty25 rfl rfl ⟨hx0, hx1⟩) ?_
    refine D_val rfl rfl rfl (R_loadH ty25 rfl (htx) rfl (fun _ => rfl) rfl) ?_
    refine D_alloc rfl rfl rfl (A_buildSlice (vs := [.slice ea d.to[ls[k].toNat].length ecp]) sl44 ty25 z25 rfl rfl (by simp [Value.cells]) (by simp) rfl (by decide)) fun b29 => ?_
    refine D_append1 0 ap44 rfl rfl rfl rfl rfl rfl ⟨⟨0, rfl⟩, ⟨1, rfl⟩, ⟨2, rfl⟩, trivial⟩ rfl rfl ⟨by omega, by omega⟩ fun a30 k30 hn30 => ?_
    refine D_val rfl rfl rfl (R_fieldAddr 2 fd63_2 rfl) ?_
    refine D_lastStore ty44 1 rfl rfl rfl rfl rfl rfl rfl rfl ?_
    refine Q_block ?_
    refine Q_then ?_
    refine K_region ?_
    refine KV (R_move rfl) rfl ?_
    refine KV (R_add rfl rfl (by omega)) rfl ?_
    refine KV (R_assign rfl) rfl ?_
    refine K_nil ?_
    refine Q_nextD (k + 1, .slice a30 (k + 1) k30, cells ++ [.slice ea d.to[ls[k].toNat].length ecp]) ⟨hk', hC.snocT hk1 ⟨_, rfl, by rw [hgd]; exact hes⟩ rfl, _, _, rfl⟩ (by (try dsimp only); omega) ⟨rfl, trivial⟩ rfl rfl rfl
  ·
    have hk' : k = rk.length := by omega
    subst hk'
    refine K_exit ?_
    refine Q_then_exit ?_
    refine Q_then_exit ?_
    refine Q_block_exit ?_
    refine Q_then ?_
    refine K_seq ?_
    refine K_region ?_
    refine KV (R_loadO ty63 1 rfl rfl rfl rfl (fun e => by cases e) rfl) rfl ?_
    refine K_store ty63 2 rfl rfl rfl rfl rfl rfl ?_
    refine K_nil ?_
    refine Q_then ?_
    refine K_ret ?_
    refine KQ_pubrow rfl fun Hp hp hrow => ?_
    refine results_gen (rs := [.cell 6 63]) (vs := [_]) rfl ⟨⟨_, _, _, _, _, _, 1, rfl, rfl, ty63, (fun e => by cases e), rfl, rfl⟩, trivial⟩ ?_
    rw [← hl, List.take_length] at hC
    refine ⟨_, _, _, rfl, h2.mono hp, SB.mono hd.a hp, cells, ?_, hC.impSI hp⟩
    have := hrow.sl
    simpa [invD, hl] using this

theorem inv_spec (d : Dt) (ls rk : List Int) (v1 v2 v3 w1 w2 : Value) (H : View) (hd : RepDt H d v1 v2 v3) (hb : d.ranks.length ≤ 1048576 ∧ d.acc.length ≤ 1048576 ∧ d.to.length ≤ 1048576 ∧ ∀ x ∈ d.to, x.length ≤ 1048576) (h1 : SI H w1 ls) (h2 : SI H w2 rk) (hb1 : ls.length ≤ 1048576) (hb2 : rk.length ≤ 1048576) :
    Sat Tryd.prog F35 #[.agg #[v1, v2, v3], w1, w2] H (fun r H' => ∃ u1 u2 u3, r = .tuple #[.agg #[u1, u2, u3], .int .i64 (invM d ls rk).1] ∧ RepDt H' (invM d ls rk).2 u1 u2 u3) := by
  obtain ⟨a1, k1, rfl⟩ := h1.shape
  obtain ⟨a2, k2, rfl⟩ := h2.shape
  obtain ⟨ua1, uc1x, rfl⟩ := hd.r.shape
  obtain ⟨ua2, uc2x, rfl⟩ := hd.a.shape
  obtain ⟨ua3, uc3x, rfl⟩ := hd.t.shape
  refine enterO (n := 57) (args := [.agg #[.slice ua1 d.ranks.length uc1x, .slice ua2 d.acc.length uc2x, .slice ua3 d.to.length uc3x], .slice a1 ls.length k1, .slice a2 rk.length k2]) Tryd.func35 rfl rfl rfl fun w0 => ?_
  refine K_seq ?_
  refine K_region ?_
  refine KA (A_box rfl) rfl fun b3 => ?_
  refine KA (A_alloc z54) rfl fun b6 => ?_
  refine KV (R_assign rfl) rfl ?_
  refine K_nil ?_
  refine Q_then ?_
  refine K_seq ?_
  refine K_seq ?_
  refine K_region ?_
  refine KV (R_loadO ty54 1 rfl rfl rfl rfl (fun e => by cases e) rfl) rfl ?_
  refine K_call c63 rfl rfl (dcheck_spec d _ _ _ H hd hb) ?_
  rintro _ V1 hv1 rfl
  refine KV (R_assign rfl) rfl ?_
  refine K_nil ?_
  refine Q_then ?_
  refine K_seq ?_
  refine K_region ?_
  refine KV (R_move rfl) rfl ?_
  refine KV (R_cmp rfl rfl rfl) rfl ?_
  refine K_nil ?_
  refine Q_then ?_
  refine K_if rfl (fun h16 => ?_) (fun h16 => ?_)
  ·
    refine K_seq ?_
    refine K_region ?_
    refine KV (R_build z54 pl54 rfl rfl) rfl ?_
    refine KV (R_move rfl) rfl ?_
    refine K_store ty54 0 rfl rfl rfl rfl rfl rfl ?_
    refine KV (R_assign rfl) rfl ?_
    refine K_nil ?_
    refine Q_then ?_
    refine K_ret ?_
    refine Q_then_ret ?_
    refine results_gen (rs := [.cell 6 54, .tmp 7]) (vs := [_, _]) rfl ⟨⟨_, _, _, _, _, _, 0, rfl, rfl, ty54, (fun e => by cases e), rfl, rfl⟩, ⟨rfl, trivial⟩⟩ ?_
    have e : invM d ls rk = (dtErr d, ⟨[], [], []⟩) := by unfold invM; rw [if_pos h16]
    rw [e]
    exact ⟨_, _, _, rfl, RepDt.nil _⟩
  ·
    refine K_skip ?_
    refine Q_then ?_
    refine K_seq ?_
    refine K_seq ?_
    refine K_region ?_
    refine KV (R_move rfl) rfl ?_
    refine K_call c72 rfl rfl (acheck_spec rk _ V1 (h2.mono hv1) (by omega)) ?_
    rintro _ V2 hv2 rfl
    refine KV (R_assign rfl) rfl ?_
    refine K_nil ?_
    refine Q_then ?_
    refine K_seq ?_
    refine K_region ?_
    refine KV (R_move rfl) rfl ?_
    refine KV (R_cmp rfl rfl rfl) rfl ?_
    refine K_nil ?_
    refine Q_then ?_
    refine K_if rfl (fun h22 => ?_) (fun h22 => ?_)
    ·
      refine K_seq ?_
      refine K_region ?_
      refine KV (R_build z54 pl54 rfl rfl) rfl ?_
      refine KV (R_move rfl) rfl ?_
      refine K_store ty54 0 rfl rfl rfl rfl rfl rfl ?_
      refine KV (R_assign rfl) rfl ?_
      refine K_nil ?_
      refine Q_then ?_
      refine K_ret ?_
      refine Q_then_ret ?_
      refine results_gen (rs := [.cell 6 54, .tmp 7]) (vs := [_, _]) rfl ⟨⟨_, _, _, _, _, _, 0, rfl, rfl, ty54, (fun e => by cases e), rfl, rfl⟩, ⟨rfl, trivial⟩⟩ ?_
      have e : invM d ls rk = (ranksErr rk, ⟨[], [], []⟩) := by unfold invM; rw [if_neg h16, if_pos h22]
      rw [e]
      exact ⟨_, _, _, rfl, RepDt.nil _⟩
    ·
      refine K_skip ?_
      refine Q_then ?_
      refine K_seq ?_
      refine K_seq ?_
      refine K_region ?_
      refine KV (R_move rfl) rfl ?_
      refine KV (R_move rfl) rfl ?_
      refine KV (R_fieldAddr 0 fd54_0 rfl) rfl ?_
      refine KV (R_loadO ty47 1 rfl rfl rfl rfl (fun _ => rfl) rfl) rfl ?_
      refine K_call c73 rfl rfl (relab_spec ls rk d.ranks _ _ _ V2 (h1.mono (hv1.trans hv2)) (h2.mono (hv1.trans hv2)) ((hd.mono (hv1.trans hv2)).r) (by omega)) ?_
      rintro _ V3 hv3 rfl
      refine KV (R_not rfl) rfl ?_
      refine K_nil ?_
      refine Q_then ?_
      refine K_ifB rfl (fun h30 => ?_) (fun h30 => ?_)
      ·
        have hmf : mapsM ls rk d.ranks = false := by simpa using h30
        refine K_seq ?_
        refine K_region ?_
        refine KV (R_build z54 pl54 rfl rfl) rfl ?_
        refine K_store ty54 0 rfl rfl rfl rfl rfl rfl ?_
        refine KV (R_assign rfl) rfl ?_
        refine K_nil ?_
        refine Q_then ?_
        refine K_ret ?_
        refine Q_then_ret ?_
        refine results_gen (rs := [.cell 6 54, .tmp 7]) (vs := [_, _]) rfl ⟨⟨_, _, _, _, _, _, 0, rfl, rfl, ty54, (fun e => by cases e), rfl, rfl⟩, ⟨rfl, trivial⟩⟩ ?_
        have e : invM d ls rk = (3, ⟨[], [], []⟩) := by unfold invM; rw [if_neg h16, if_neg h22, if_pos hmf]
        rw [e]
        exact ⟨_, _, _, rfl, RepDt.nil _⟩
      ·
        have hmt : mapsM ls rk d.ranks = true := by simpa using h30
        obtain ⟨hml, hmx⟩ := mapsM_iff.1 hmt
        have hdok := DtOk.of (Decidable.not_not.1 h16)
        refine K_skip ?_
        refine Q_then ?_
        refine K_seq ?_
        refine K_regionD (fin := true) (R := [0, 2, 3, 1, 4, 5, 6, 7]) (by kernel_rfl) mixed (.cons_cons _ (.cons_cons _ (List.nil_sublist _))) ?_
        refine D_val rfl rfl rfl (R_move rfl) ?_
        refine D_val rfl rfl rfl (R_fieldAddr 1 fd54_1 rfl) ?_
        refine D_val rfl rfl rfl (R_loadO ty52 1 rfl rfl rfl rfl (fun _ => rfl) rfl) ?_
        refine D_call rfl rfl c45 rfl ⟨⟨0, rfl⟩, ⟨1, rfl⟩, trivial⟩ (clone47_spec rk _ V3 (h2.mono (hv1.trans (hv2.trans hv3))) (by omega)) ?_
        rintro cr V4 hv4 hcr
        obtain ⟨ca, cc, rfl⟩ := hcr.shape
        refine D_call rfl rfl c74 rfl ⟨⟨0, rfl⟩, ⟨1, rfl⟩, trivial⟩ (cloneb_spec d.acc _ V4 ((hd.mono (hv1.trans (hv2.trans (hv3.trans hv4)))).a) (Nat.le_trans hb.2.1 (by decide))) ?_
        rintro cb V5 hv5 hcb
        obtain ⟨cba, cbc, rfl⟩ := hcb.shape
        have hd5 := hd.mono (hv1.trans (hv2.trans (hv3.trans (hv4.trans hv5))))
        have h15 := h1.mono (hv1.trans (hv2.trans (hv3.trans (hv4.trans hv5))))
        refine D_val rfl rfl rfl (R_build z54 pl54 rfl rfl) ?_
        refine D_alloc rfl rfl rfl (A_alloc z54) fun b10 => ?_
        refine D_lastStore ty54 0 rfl rfl rfl rfl rfl rfl rfl rfl ?_
        refine Q_then ?_
        refine K_seq ?_
        refine K_seq ?_
        refine K_region ?_
        refine KV (R_move rfl) rfl ?_
        refine KV (R_len sl25 rfl) rfl ?_
        refine KV (R_move rfl) rfl ?_
        refine K_nil ?_
        refine Q_then ?_
        refine K_block ?_
        refine K_nilrow T25 1 ?_
        refine K_loopD (G := Nat × View × Value × List Value) [12, 40, 41, 42, 43, 44, 45, 46, 47, 48, 49, 50, 51, 52, 53, 54, 55] (fun g => [(40, .int .i64 (g.1 : Int))]) (fun hl g => ((hl.set 0 (row g.2.2.1 T25 1 g.1 g.2.2.2)).set 1 (blk b10 (.cells #[.slice ca rk.length cc, .slice cba d.acc.length cbc, g.2.2.1] T54 (0, 0))))) (fun g => g.2.1) (fun g => (g.1 ≤ ls.length) ∧ (VLe V5 g.2.1) ∧ (RepL (RSI g.2.1) 1 ((ls.take g.1).map fun s => d.to.getD s.toNat []) g.2.2.2) ∧ (∃ ad cp, g.2.2.1 = .slice ad g.1 cp)) (fun g => ls.length - g.1) (0, V5, nilS, []) ⟨Nat.zero_le _, VLe.refl _, .nil, none, 0, rfl⟩ ⟨rfl, trivial⟩ (by simp only [args0, Nat.reduceAdd, del, memN, beqN, Nat.reduceBEq, cond_true, cond_false]; rfl) rfl rfl ?_
        rintro ⟨k, V, w, cells⟩ ⟨hk, hV, hC, hw⟩
        dsimp only at hk hV hC hw
        dsimp only [List.set, List.cons_append, List.nil_append]
        obtain ⟨wa, wcp, rfl⟩ := hw
        refine K_seq ?_
        refine K_region ?_
        refine KV (R_cmp rfl rfl rfl) rfl ?_
        refine K_nil ?_
        refine Q_then ?_
        refine K_seq ?_
        refine K_if rfl (fun h41 => ?_) (fun h41 => ?_)
        ·
          have hk' : k < ls.length := by omega
          obtain ⟨tb, to_, hte, hta⟩ := h15.get hk'
          cases hte
          have hmk := (hmx k hk' (by omega)).1
          have htl := hdok.tl
          have hx0 : 0 ≤ ls[k] := hmk.1
          have hx1 : ls[k] < (d.to.length : Int) := by omega
          have hxl : ls[k].toNat < d.to.length := by omega
          obtain ⟨db, do_, ea, ecp, hde, htx, hes⟩ := hd5.t.get hxl
          cases hde
          have hgd : d.to.getD ls[k].toNat [] = d.to[ls[k].toNat] := by simp [List.getD, hxl]
          refine K_skip ?_
          refine Q_then ?_
          refine K_seq ?_
          refine K_block ?_
          refine K_seq ?_
          refine K_region ?_
          refine KV (R_indexN sl25 ty3 rfl rfl (by omega)) rfl ?_
          refine KV (R_loadH ty3 rfl (hta.mono hV) rfl (fun _ => rfl) rfl) rfl ?_
          refine KV (R_assign rfl) rfl ?_
          refine K_nil ?_
          refine Q_then ?_
          refine K_regionD (fin := true) (R := [0, 1, 2, 3, 4, 5, 6, 7, 8, 9, 10, 11]) (by kernel_rfl) mixed (.cons _ (.cons_cons _ (.cons_cons _ (.cons_cons _ (List.nil_sublist _))))) ?_
          refine D_val rfl rfl rfl (R_fieldAddr 2 fd54_2 rfl) ?_
          refine D_val rfl rfl rfl (R_loadO ty44 0 rfl rfl rfl rfl (fun _ => rfl) rfl) ?_
          refine D_val rfl rfl rfl (R_fieldAddr 2 fd54_2 rfl) ?_
          refine D_val rfl rfl rfl (R_loadO ty44 2 rfl rfl rfl rfl (fun _ => rfl) rfl) ?_
          refine D_val rfl rfl rfl (R_move rfl) ?_
          refine D_val rfl rfl rfl (R_index sl44 ty25 rfl rfl ⟨hx0, hx1⟩) ?_
          refine D_val rfl rfl rfl (R_loadH ty25 rfl (htx.mono hV) rfl (fun _ => rfl) rfl) ?_
          refine D_call rfl rfl c65 rfl ⟨⟨1, rfl⟩, ⟨2, rfl⟩, ⟨3, rfl⟩, trivial⟩ (clone25_spec d.to[ls[k].toNat] _ V (hes.mono hV) (Nat.le_trans (hb.2.2.2 _ (List.getElem_mem hxl)) (by decide))) ?_
          rintro ce U hU hce
          obtain ⟨cea, cec, rfl⟩ := hce.shape
          refine D_alloc rfl rfl rfl (A_buildSlice (vs := [.slice cea d.to[ls[k].toNat].length cec]) sl44 ty25 z25 rfl rfl (by simp [Value.cells]) (by simp) rfl (by decide)) fun b52 => ?_
          refine D_append1 0 ap44 rfl rfl rfl rfl rfl rfl ⟨⟨0, rfl⟩, ⟨1, rfl⟩, ⟨2, rfl⟩, trivial⟩ rfl rfl ⟨by omega, by omega⟩ fun a53 k53 hn53 => ?_
          refine D_val rfl rfl rfl (R_fieldAddr 2 fd54_2 rfl) ?_
          refine D_lastStore ty44 1 rfl rfl rfl rfl rfl rfl rfl rfl ?_
          refine Q_block ?_
          refine Q_then ?_
          refine K_region ?_
          refine KV (R_add rfl rfl (by omega)) rfl ?_
          refine KV (R_move rfl) rfl ?_
          refine K_nil ?_
          refine Q_nextD (k + 1, U, .slice a53 (k + 1) k53, cells ++ [.slice cea d.to[ls[k].toNat].length cec]) ⟨hk', hV.trans hU, (hC.impSI hU).snocT hk' ⟨_, rfl, by rw [hgd]; exact hce⟩ rfl, _, _, rfl⟩ (by (try dsimp only); omega) ⟨rfl, trivial⟩ rfl rfl rfl
        ·
          have hk' : k = ls.length := by omega
          subst hk'
          refine K_exit ?_
          refine Q_then_exit ?_
          refine Q_then_exit ?_
          refine Q_block_exit ?_
          refine Q_then ?_
          refine K_seq ?_
          refine K_region ?_
          refine KV (R_loadO ty54 1 rfl rfl rfl rfl (fun e => by cases e) rfl) rfl ?_
          refine K_store ty54 2 rfl rfl rfl rfl rfl rfl ?_
          refine KV (R_assign rfl) rfl ?_
          refine K_nil ?_
          refine Q_then ?_
          refine K_ret ?_
          refine KQ_pubrow rfl fun Hp hp hrow => ?_
          refine results_gen (rs := [.cell 6 54, .tmp 7]) (vs := [_, _]) rfl ⟨⟨_, _, _, _, _, _, 1, rfl, rfl, ty54, (fun e => by cases e), rfl, rfl⟩, ⟨rfl, trivial⟩⟩ ?_
          have e : invM d ls rk = (0, invD d ls rk) := by unfold invM; rw [if_neg h16, if_neg h22, if_neg (by rw [hmt]; simp)]
          rw [e]
          rw [List.take_length] at hC
          refine ⟨_, _, _, rfl, hcr.mono (hv5.trans (hV.trans hp)), SB.mono hcb (hV.trans hp), cells, ?_, hC.impSI hp⟩
          have := hrow.sl
          simpa [invD] using this

theorem at_spec (d : Dt) (hok : DtOk d) (s : Int) (xs : List Int) (v1 v2 v3 w : Value) (H : View) (hd : RepDt H d v1 v2 v3) (hw : SI H w xs) (hs : 0 ≤ s ∧ s < d.ranks.length) (hl : (xs.length : Int) = d.ranks.getD s.toNat 0) (hx : ∀ x ∈ xs, 0 ≤ x ∧ x < (d.acc.length : Int)) :
    Sat Tryd.prog F91 #[.agg #[v1, v2, v3], .int .i64 s, w] H (fun r _ => r = .int .i64 (atM d s xs)) := by
  obtain ⟨wa, wcp, rfl⟩ := hw.shape
  obtain ⟨g1, g2, g3, g4⟩ := hok.at_ok hs hl hx
  have hn := hok.n
  have hrkb := (ranksErr_ok hok.rk).2 s.toNat (by omega)
  have hxl : xs.length ≤ 2 := by
    have : d.ranks.getD s.toNat 0 = d.ranks[s.toNat] := by simp [List.getD, show s.toNat < d.ranks.length by omega]
    omega
  obtain ⟨ua1, uc1x, rfl⟩ := hd.r.shape
  obtain ⟨ua2, uc2x, rfl⟩ := hd.a.shape
  obtain ⟨ua3, uc3x, rfl⟩ := hd.t.shape
  refine enterO (n := 32) (args := [.agg #[.slice ua1 d.ranks.length uc1x, .slice ua2 d.acc.length uc2x, .slice ua3 d.to.length uc3x], .int .i64 s, .slice wa xs.length wcp]) Tryd.func91 rfl rfl rfl fun w0 => ?_
  refine K_seq ?_
  refine K_region ?_
  refine KA (A_box rfl) rfl fun b3 => ?_
  refine KV (R_assign rfl) rfl ?_
  refine K_nil ?_
  refine Q_then ?_
  refine K_seq ?_
  refine K_region ?_
  refine KV (R_assign rfl) rfl ?_
  refine K_nil ?_
  refine Q_then ?_
  refine K_seq ?_
  refine K_seq ?_
  refine K_region ?_
  refine KV (R_move rfl) rfl ?_
  refine KV (R_len sl25 rfl) rfl ?_
  refine KV (R_move rfl) rfl ?_
  refine K_nil ?_
  refine Q_then ?_
  refine K_block ?_
  refine K_loopD (G := Nat) [7, 9, 12, 13, 14, 15, 16, 17, 18, 19, 20, 21, 22, 23] (fun g => [(12, .int .i64 (g : Int)), (7, .int .i64 (placeM d.acc.length (xs.take g)))]) (fun hl g => hl) (fun g => H) (fun g => (g ≤ xs.length)) (fun g => xs.length - g) 0 (Nat.zero_le _) ⟨rfl, rfl, trivial⟩ (by simp only [args0, Nat.reduceAdd, del, memN, beqN, Nat.reduceBEq, cond_true, cond_false]; rfl) rfl rfl ?_
  rintro k hk
  try dsimp only at hk
  dsimp only [List.set, List.cons_append, List.nil_append]
  refine K_seq ?_
  refine K_region ?_
  refine KV (R_cmp rfl rfl rfl) rfl ?_
  refine K_nil ?_
  refine Q_then ?_
  refine K_seq ?_
  refine K_if rfl (fun h13 => ?_) (fun h13 => ?_)
  ·
    have hk' : k < xs.length := by omega
    obtain ⟨tb, to_, hte, hta⟩ := hw.get hk'
    cases hte
    have hpl := placeM_lt hx k hk
    have hpk : d.acc.length ^ k ≤ 262144 := pow_le2 hn.2 (by omega)
    have hxk := hx _ (List.getElem_mem hk')
    have hm0 : 0 ≤ placeM d.acc.length (xs.take k) * (d.acc.length : Int) := Int.mul_nonneg hpl.1 (by omega)
    have hm1 : placeM d.acc.length (xs.take k) * (d.acc.length : Int) ≤ 262144 * (d.acc.length : Int) := Int.mul_le_mul_of_nonneg_right (by omega) (by omega)
    refine K_skip ?_
    refine Q_then ?_
    refine K_seq ?_
    refine K_block ?_
    refine K_seq ?_
    refine K_region ?_
    refine KV (R_indexN sl25 ty3 rfl rfl (by omega)) rfl ?_
    refine KV (R_loadH ty3 rfl (hta) rfl (fun _ => rfl) rfl) rfl ?_
    refine KV (R_assign rfl) rfl ?_
    refine K_nil ?_
    refine Q_then ?_
    refine K_region ?_
    refine KV (R_move rfl) rfl ?_
    refine KV (R_fieldAddr 1 fd54_1 rfl) rfl ?_
    refine KV (R_loadO ty52 0 rfl rfl rfl rfl (fun _ => rfl) rfl) rfl ?_
    refine KV (R_len sl52 rfl) rfl ?_
    refine KV (R_mul rfl rfl (by omega)) rfl ?_
    refine KV (R_move rfl) rfl ?_
    refine KV (R_add rfl rfl (by omega)) rfl ?_
    refine KV (R_assign rfl) rfl ?_
    refine K_nil ?_
    refine Q_block ?_
    refine Q_then ?_
    refine K_region ?_
    refine KV (R_add rfl rfl (by omega)) rfl ?_
    refine KV (R_move rfl) rfl ?_
    refine K_nil ?_
    refine Q_nextD (k + 1) hk' (by (try dsimp only); omega) ⟨rfl, congrArg (fun z => some (Value.int .i64 z)) (placeM_take hk').symm, trivial⟩ rfl rfl rfl
  ·
    have hk' : k = xs.length := by omega
    subst hk'
    rw [List.take_length]
    obtain ⟨db, do_, ea, ecp, hde, htx, hes⟩ := hd.t.get g1
    cases hde
    have hgs : d.to.getD s.toNat [] = d.to[s.toNat] := by simp [List.getD, g1]
    rw [hgs] at g2
    obtain ⟨eb, eo, hee, hty⟩ := hes.get g2.2
    cases hee
    have hg2 : atM d s xs = d.to[s.toNat][(placeM d.acc.length xs).toNat] := by
      unfold atM
      rw [hgs]
      simp [List.getD, g2.2]
    refine K_exit ?_
    refine Q_then_exit ?_
    refine Q_then_exit ?_
    refine Q_block_exit ?_
    refine Q_then ?_
    refine K_seq ?_
    refine K_region ?_
    refine KV (R_fieldAddr 2 fd54_2 rfl) rfl ?_
    refine KV (R_loadO ty44 0 rfl rfl rfl rfl (fun _ => rfl) rfl) rfl ?_
    refine KV (R_move rfl) rfl ?_
    refine KV (R_index sl44 ty25 rfl rfl ⟨by omega, by omega⟩) rfl ?_
    refine KV (R_loadH ty25 rfl (htx) rfl (fun _ => rfl) rfl) rfl ?_
    refine KV (R_move rfl) rfl ?_
    refine KV (R_index sl25 ty3 rfl rfl ⟨g2.1, by omega⟩) rfl ?_
    refine KV (R_loadH ty3 rfl (hty) rfl (fun _ => rfl) rfl) rfl ?_
    refine KV (R_assign rfl) rfl ?_
    refine K_nil ?_
    refine Q_then ?_
    refine K_ret ?_
    refine results_gen (rs := [.tmp 6]) (vs := [_]) rfl ⟨rfl, trivial⟩ ?_
    rw [hg2]
    rfl

theorem run_spec (d : Dt) (hok : DtOk d) (v1 v2 v3 : Value) : ∀ m t H cs, t.size ≤ m → m ≤ 1099511627776 → RepT H t cs → RepDt H d v1 v2 v3 → Tr.nodesErr d.ranks t = 0 → Sat Tryd.prog F99 #[.agg #[v1, v2, v3], .agg cs.toArray] H (fun r _ => r = .int .i64 (Tr.run d t)) := by
  intro m
  induction m with
  | zero => intro t H cs h; have := t.size_pos; omega
  | succ m ih =>
  intro t H cs hm hb hr hd hne
  have hnt := hne
  cases hr with | mk s ts a cap b off cs' hs ha hA hrec =>
  have hsz : (Tr.node s ts).size = 1 + Tr.sizes ts := rfl
  have hln := Tr.length_le_sizes ts
  obtain ⟨hn1, hn2, hn3⟩ := Tr.nodesErr_zero.1 hne
  have hro : ∀ t ∈ ts, i64ok (Tr.run d t) := by
    intro t ht
    have := Tr.run_ok hok _ t (Nat.le_refl _) (hn3 t ht)
    have := hok.n
    simp only [i64ok]; omega
  obtain ⟨ua1, uc1x, rfl⟩ := hd.r.shape
  obtain ⟨ua2, uc2x, rfl⟩ := hd.a.shape
  obtain ⟨ua3, uc3x, rfl⟩ := hd.t.shape
  refine enterO (n := 27) (args := [.agg #[.slice ua1 d.ranks.length uc1x, .slice ua2 d.acc.length uc2x, .slice ua3 d.to.length uc3x], .agg #[.int .i64 s, .slice a ts.length cap]]) Tryd.func99 rfl rfl rfl fun w0 => ?_
  refine K_seq ?_
  refine K_region ?_
  refine KA (A_box rfl) rfl fun b2 => ?_
  refine KA (A_box rfl) rfl fun b3 => ?_
  refine KV (R_assign rfl) rfl ?_
  refine K_nil ?_
  refine Q_then ?_
  refine K_seq ?_
  refine K_region ?_
  refine KV (R_assign rfl) rfl ?_
  refine K_nil ?_
  refine Q_then ?_
  refine K_seq ?_
  refine K_seq ?_
  refine K_region ?_
  refine KV (R_fieldAddr 1 fd30_1 rfl) rfl ?_
  refine KV (R_loadO ty28 0 rfl rfl rfl rfl (fun _ => rfl) rfl) rfl ?_
  refine KV (R_len sl28 rfl) rfl ?_
  refine KV (R_move rfl) rfl ?_
  refine K_nil ?_
  refine Q_then ?_
  refine K_block ?_
  refine K_nilrow T3 1 ?_
  refine K_loopD (G := Nat × View × Value) [5, 7, 11, 12, 13, 14, 15, 16, 17, 18, 19, 20, 21] (fun g => [(11, .int .i64 (g.1 : Int)), (5, g.2.2)]) (fun hl g => (hl.set 0 (row g.2.2 T3 1 g.1 (ints ((ts.take g.1).map (Tr.run d)))))) (fun g => g.2.1) (fun g => (g.1 ≤ ts.length) ∧ (VLe H g.2.1) ∧ (∃ ad cp, g.2.2 = .slice ad g.1 cp)) (fun g => ts.length - g.1) (0, H, nilS) ⟨Nat.zero_le _, VLe.refl _, none, 0, rfl⟩ ⟨rfl, rfl, trivial⟩ (by simp only [args0, Nat.reduceAdd, del, memN, beqN, Nat.reduceBEq, cond_true, cond_false]; rfl) rfl rfl ?_
  rintro ⟨k, V, w⟩ ⟨hk, hV, hw⟩
  dsimp only at hk hV hw
  dsimp only [List.set, List.cons_append, List.nil_append]
  obtain ⟨wa, wcp, rfl⟩ := hw
  refine K_seq ?_
  refine K_region ?_
  refine KV (R_cmp rfl rfl rfl) rfl ?_
  refine K_nil ?_
  refine Q_then ?_
  refine K_seq ?_
  refine K_if rfl (fun h12 => ?_) (fun h12 => ?_)
  ·
    have hlt' : k < ts.length := by omega
    have htk := Tr.sizes_take ts k hlt'
    have hle' := Tr.sizes_take_le ts (k + 1)
    have ha' := ha (by intro e; subst e; simp at hlt')
    subst ha'
    obtain ⟨y0, y1, y2, y3, hcs⟩ := (hrec k hlt').shape
    have hreck := (hrec k hlt').mono hV
    rw [hcs] at hreck
    refine K_skip ?_
    refine Q_then ?_
    refine K_seq ?_
    refine K_block ?_
    refine K_seq ?_
    refine K_region ?_
    refine KV (R_indexN sl28 ty30 rfl rfl (by omega)) rfl ?_
    refine KV (R_loadH ty30 rfl (hcs ▸ (hA k hlt').2.mono hV) rfl (fun e => by cases e) rfl) rfl ?_
    refine KA (A_alloc z30) rfl fun b7 => ?_
    refine K_store ty30 0 rfl rfl rfl rfl rfl rfl ?_
    refine K_nil ?_
    refine Q_then ?_
    refine K_region ?_
    refine KV (R_move rfl) rfl ?_
    refine KV (R_loadO ty54 3 rfl rfl rfl rfl (fun e => by cases e) rfl) rfl ?_
    refine KV (R_loadO ty30 0 rfl rfl rfl rfl (fun e => by cases e) rfl) rfl ?_
    refine K_call c99 rfl rfl (ih ts[k] V _ (by omega) (by omega) hreck (hd.mono hV) (hn3 _ (List.getElem_mem hlt'))) ?_
    rintro _ V1 hle1 rfl
    refine KA (A_buildSlice (vs := [.int .i64 (Tr.run d ts[k])]) sl25 ty3 z3 rfl rfl (by simp [Value.cells]) (by simp) rfl (by decide)) rfl fun b19 => ?_
    refine K_append1 1 ap25 rfl rfl rfl rfl rfl rfl ⟨by omega, by omega⟩ rfl fun a20 k20 hn20 => ?_
    refine KV (R_assign rfl) rfl ?_
    refine K_nil ?_
    refine Q_block ?_
    refine Q_then ?_
    refine K_region ?_
    refine KV (R_add rfl rfl (by omega)) rfl ?_
    refine KV (R_move rfl) rfl ?_
    refine K_nil ?_
    refine KQ_sel [0, 1, 1] rfl ?_
    refine Q_nextD (k + 1, V1, .slice a20 (k + 1) k20) ⟨hlt', hV.trans hle1, _, _, rfl⟩ (by (try dsimp only); omega) ⟨rfl, rfl, trivial⟩ rfl (by dsimp only; rw [take_ints_snoc hlt']; rfl) rfl
  ·
    have hk' : k = ts.length := by omega
    subst hk'
    rw [List.take_length]
    refine K_exit ?_
    refine Q_then_exit ?_
    refine Q_then_exit ?_
    refine Q_block_exit ?_
    refine Q_then ?_
    refine K_seq ?_
    refine KC_pubrow rfl fun W hW hrow => ?_
    refine K_region ?_
    refine KV (R_loadO ty54 1 rfl rfl rfl rfl (fun e => by cases e) rfl) rfl ?_
    refine KV (R_fieldAddr 0 fd30_0 rfl) rfl ?_
    refine KV (R_loadO ty3 0 rfl rfl rfl rfl (fun _ => rfl) rfl) rfl ?_
    refine KV (R_move rfl) rfl ?_
    refine K_call c91 rfl rfl (at_spec d hok s (ts.map (Tr.run d)) _ _ _ _ W (hd.mono (hV.trans hW)) ⟨by rw [List.length_map]; exact hrow.sl, by intro x hx; obtain ⟨t, ht, rfl⟩ := List.mem_map.1 hx; exact hro t ht⟩ hn1 (by rw [List.length_map]; exact hn2) (by intro x hx; obtain ⟨t, ht, rfl⟩ := List.mem_map.1 hx; exact Tr.run_ok hok _ t (Nat.le_refl _) (hn3 t ht))) ?_
    rintro _ V1 hle1 rfl
    refine KV (R_assign rfl) rfl ?_
    refine K_nil ?_
    refine Q_then ?_
    refine K_ret ?_
    refine results_gen (rs := [.tmp 4]) (vs := [_]) rfl ⟨rfl, trivial⟩ ?_
    rw [Tr.run, Tr.runs_map]
    rfl

theorem drun_spec (d : Dt) (v1 v2 v3 : Value) (t : Tr) (H : View) (cs : List Value) (hb : d.ranks.length ≤ 1048576 ∧ d.acc.length ≤ 1048576 ∧ d.to.length ≤ 1048576 ∧ ∀ x ∈ d.to, x.length ≤ 1048576) (hbt : t.size ≤ 1073741824) (hd : RepDt H d v1 v2 v3) (hr : RepT H t cs) : Sat Tryd.prog F76 #[.agg #[v1, v2, v3], .agg cs.toArray] H
    (fun r _ => ∃ s e, r = .tuple #[.int .i64 s, .int .i64 e] ∧ ((dtErr d ≠ 0 ∧ e = dtErr d) ∨ (dtErr d = 0 ∧ e = validErr d.ranks t ∧ (e = 0 → s = Tr.run d t)))) := by
  obtain ⟨x0, x1, x2, x3, rfl⟩ := hr.shape
  obtain ⟨ua1, uc1x, rfl⟩ := hd.r.shape
  obtain ⟨ua2, uc2x, rfl⟩ := hd.a.shape
  obtain ⟨ua3, uc3x, rfl⟩ := hd.t.shape
  refine enterO (n := 23) (args := [.agg #[.slice ua1 d.ranks.length uc1x, .slice ua2 d.acc.length uc2x, .slice ua3 d.to.length uc3x], .agg #[.int .i64 x0, .slice x1 x2 x3]]) Tryd.func76 rfl rfl rfl fun w0 => ?_
  refine K_seq ?_
  refine K_region ?_
  refine KA (A_box rfl) rfl fun b2 => ?_
  refine KA (A_box rfl) rfl fun b3 => ?_
  refine KV (R_assign rfl) rfl ?_
  refine KV (R_assign rfl) rfl ?_
  refine K_nil ?_
  refine Q_then ?_
  refine K_seq ?_
  refine K_seq ?_
  refine K_region ?_
  refine KV (R_loadO ty54 1 rfl rfl rfl rfl (fun e => by cases e) rfl) rfl ?_
  refine K_call c63 rfl rfl (dcheck_spec d _ _ _ H hd hb) ?_
  rintro _ V1 hv1 rfl
  refine KV (R_assign rfl) rfl ?_
  refine K_nil ?_
  refine Q_then ?_
  refine K_seq ?_
  refine K_region ?_
  refine KV (R_move rfl) rfl ?_
  refine KV (R_cmp rfl rfl rfl) rfl ?_
  refine K_nil ?_
  refine Q_then ?_
  refine K_if rfl (fun h11 => ?_) (fun h11 => ?_)
  ·
    refine K_seq ?_
    refine K_region ?_
    refine KV (R_move rfl) rfl ?_
    refine KV (R_assign rfl) rfl ?_
    refine KV (R_assign rfl) rfl ?_
    refine K_nil ?_
    refine Q_then ?_
    refine K_ret ?_
    refine Q_then_ret ?_
    refine results_gen (rs := [.tmp 4, .tmp 5]) (vs := [_, _]) rfl ⟨rfl, ⟨rfl, trivial⟩⟩ ?_
    exact ⟨_, _, rfl, .inl ⟨h11, rfl⟩⟩
  ·
    have hde : dtErr d = 0 := Decidable.not_not.1 h11
    refine K_skip ?_
    refine Q_then ?_
    refine K_seq ?_
    refine K_seq ?_
    refine K_region ?_
    refine KV (R_fieldAddr 0 fd54_0 rfl) rfl ?_
    refine KV (R_loadO ty47 1 rfl rfl rfl rfl (fun _ => rfl) rfl) rfl ?_
    refine KV (R_loadO ty30 0 rfl rfl rfl rfl (fun e => by cases e) rfl) rfl ?_
    refine K_call c98 rfl rfl (pvalid_spec d.ranks _ t V1 _ hb.1 hbt (hr.mono hv1) ((hd.mono hv1).r)) ?_
    rintro _ V2 hv2 rfl
    refine KV (R_assign rfl) rfl ?_
    refine K_nil ?_
    refine Q_then ?_
    refine K_seq ?_
    refine K_region ?_
    refine KV (R_move rfl) rfl ?_
    refine KV (R_cmp rfl rfl rfl) rfl ?_
    refine K_nil ?_
    refine Q_then ?_
    refine K_if rfl (fun h18 => ?_) (fun h18 => ?_)
    ·
      refine K_seq ?_
      refine K_region ?_
      refine KV (R_move rfl) rfl ?_
      refine KV (R_assign rfl) rfl ?_
      refine KV (R_assign rfl) rfl ?_
      refine K_nil ?_
      refine Q_then ?_
      refine K_ret ?_
      refine Q_then_ret ?_
      refine results_gen (rs := [.tmp 4, .tmp 5]) (vs := [_, _]) rfl ⟨rfl, ⟨rfl, trivial⟩⟩ ?_
      exact ⟨_, _, rfl, .inr ⟨hde, rfl, fun h => absurd h h18⟩⟩
    ·
      have hve : validErr d.ranks t = 0 := Decidable.not_not.1 h18
      have hne : Tr.nodesErr d.ranks t = 0 := by
        have h := hve
        unfold validErr at h
        split at h
        · rename_i g; exact absurd h g
        · split at h
          · cases h
          · split at h
            · cases h
            · exact h
      refine K_skip ?_
      refine Q_then ?_
      refine K_seq ?_
      refine K_region ?_
      refine KV (R_loadO ty54 1 rfl rfl rfl rfl (fun e => by cases e) rfl) rfl ?_
      refine KV (R_loadO ty30 0 rfl rfl rfl rfl (fun e => by cases e) rfl) rfl ?_
      refine K_call c99 rfl rfl (run_spec d (DtOk.of hde) _ _ _ t.size t V2 _ (Nat.le_refl _) (by omega) (hr.mono (hv1.trans hv2)) (hd.mono (hv1.trans hv2)) hne) ?_
      rintro _ V3 hv3 rfl
      refine KV (R_assign rfl) rfl ?_
      refine KV (R_assign rfl) rfl ?_
      refine K_nil ?_
      refine Q_then ?_
      refine K_ret ?_
      refine results_gen (rs := [.tmp 4, .tmp 5]) (vs := [_, _]) rfl ⟨rfl, ⟨rfl, trivial⟩⟩ ?_
      exact ⟨_, _, rfl, .inr ⟨hde, hve.symm, fun _ => rfl⟩⟩

theorem daccepts_spec (d : Dt) (v1 v2 v3 : Value) (t : Tr) (H : View) (cs : List Value) (hb : d.ranks.length ≤ 1048576 ∧ d.acc.length ≤ 1048576 ∧ d.to.length ≤ 1048576 ∧ ∀ x ∈ d.to, x.length ≤ 1048576) (hbt : t.size ≤ 1073741824) (hd : RepDt H d v1 v2 v3) (hr : RepT H t cs) : Sat Tryd.prog F40 #[.agg #[v1, v2, v3], .agg cs.toArray] H (fun r _ => r = .bool (acceptsM d t)) := by
  obtain ⟨x0, x1, x2, x3, rfl⟩ := hr.shape
  obtain ⟨ua1, uc1x, rfl⟩ := hd.r.shape
  obtain ⟨ua2, uc2x, rfl⟩ := hd.a.shape
  obtain ⟨ua3, uc3x, rfl⟩ := hd.t.shape
  refine enterO (n := 22) (args := [.agg #[.slice ua1 d.ranks.length uc1x, .slice ua2 d.acc.length uc2x, .slice ua3 d.to.length uc3x], .agg #[.int .i64 x0, .slice x1 x2 x3]]) Tryd.func40 rfl rfl rfl fun w0 => ?_
  refine K_seq ?_
  refine K_region ?_
  refine KA (A_box rfl) rfl fun b2 => ?_
  refine KA (A_box rfl) rfl fun b3 => ?_
  refine KV (R_assign rfl) rfl ?_
  refine K_nil ?_
  refine Q_then ?_
  refine K_seq ?_
  refine K_region ?_
  refine KV (R_loadO ty54 1 rfl rfl rfl rfl (fun e => by cases e) rfl) rfl ?_
  refine KV (R_loadO ty30 0 rfl rfl rfl rfl (fun e => by cases e) rfl) rfl ?_
  refine K_call c76 rfl rfl (drun_spec d _ _ _ t H _ hb hbt hd hr) ?_
  rintro _ V1 hv1 ⟨s, e, rfl, hse⟩
  refine KV (R_move rfl) rfl ?_
  refine KV (R_extract rfl rfl) rfl ?_
  refine KV (R_extract rfl rfl) rfl ?_
  refine KV (R_assign rfl) rfl ?_
  refine KV (R_assign rfl) rfl ?_
  refine K_nil ?_
  refine Q_then ?_
  refine K_seq ?_
  refine K_region ?_
  refine KV (R_move rfl) rfl ?_
  refine KV (R_cmp rfl rfl rfl) rfl ?_
  refine KV (R_move rfl) rfl ?_
  refine K_split ?_ ?_
  ·
    intro h15
    have hde : dtErr d = 0 := by
      rcases hse with ⟨g1, g2⟩ | ⟨g1, _⟩
      · omega
      · exact g1
    obtain ⟨hve, hst⟩ : validErr d.ranks t = 0 ∧ s = Tr.run d t := by
      rcases hse with ⟨g1, g2⟩ | ⟨_, g2, g3⟩
      · omega
      · exact ⟨by omega, g3 h15⟩
    subst hst
    have hne : Tr.nodesErr d.ranks t = 0 := by
      have h := hve
      unfold validErr at h
      split at h
      · rename_i g; exact absurd h g
      · split at h
        · cases h
        · split at h
          · cases h
          · exact h
    have hrn := Tr.run_ok (DtOk.of hde) _ t (Nat.le_refl _) hne
    have hrl : (Tr.run d t).toNat < d.acc.length := by omega
    obtain ⟨tb, to_, hte, hta⟩ := (SB.mono hd.a hv1).get hrl
    cases hte
    refine K_gyes rfl rfl ?_
    refine KV (R_fieldAddr 1 fd54_1 rfl) rfl ?_
    refine K_gyes rfl rfl ?_
    refine KV (R_loadO ty52 1 rfl rfl rfl rfl (fun _ => rfl) rfl) rfl ?_
    refine K_gyes rfl rfl ?_
    refine KV (R_move rfl) rfl ?_
    refine K_gyes rfl rfl ?_
    refine KV (R_index sl52 ty4 rfl rfl ⟨hrn.1, hrn.2⟩) rfl ?_
    refine K_gyes rfl rfl ?_
    refine KV (R_loadH ty4 rfl (hta) rfl (fun _ => rfl) rfl) rfl ?_
    refine KV (R_pickT rfl rfl) rfl ?_
    refine KV (R_assign rfl) rfl ?_
    refine K_nil ?_
    refine Q_then ?_
    refine K_ret ?_
    refine results_gen (rs := [.tmp 4]) (vs := [_]) rfl ⟨rfl, trivial⟩ ?_
    refine congrArg Value.bool ?_
    unfold acceptsM
    rw [if_neg (by rw [hde]; simp), if_neg (by rw [hve]; simp)]
    simp [List.getD, hrl]
  ·
    intro h15
    refine K_gno rfl rfl rfl rfl ?_
    refine K_gno rfl rfl rfl rfl ?_
    refine K_gno rfl rfl rfl rfl ?_
    refine K_gno rfl rfl rfl rfl ?_
    refine K_gno rfl rfl rfl rfl ?_
    refine KV (R_pickF rfl rfl) rfl ?_
    refine KV (R_assign rfl) rfl ?_
    refine K_nil ?_
    refine Q_then ?_
    refine K_ret ?_
    refine results_gen (rs := [.tmp 4]) (vs := [_]) rfl ⟨rfl, trivial⟩ ?_
    refine congrArg Value.bool (Eq.symm ?_)
    unfold acceptsM
    rcases hse with ⟨g1, g2⟩ | ⟨g1, g2, _⟩
    · rw [if_pos g1]
    · rw [if_neg (by rw [g1]; simp), if_pos (by omega)]
end Go.Proofs.X

namespace Go.Proofs.X
open Go Pal Go.Proofs
attribute [local irreducible] Pal.KO Pal.KC Pal.KQ Pal.KD
theorem c26 : callable Tryd.prog F26 = true := by kernel_rfl
theorem c28 : callable Tryd.prog F28 = true := by kernel_rfl
theorem c29 : callable Tryd.prog F29 = true := by kernel_rfl
theorem c34 : callable Tryd.prog F34 = true := by kernel_rfl
theorem c35 : callable Tryd.prog F35 = true := by kernel_rfl
theorem c37 : callable Tryd.prog F37 = true := by kernel_rfl
theorem c38 : callable Tryd.prog F38 = true := by kernel_rfl
theorem c39 : callable Tryd.prog F39 = true := by kernel_rfl
theorem c40 : callable Tryd.prog F40 = true := by kernel_rfl
theorem inv_law (d : Dt) (ls rk : List Int) (t : Tr) (v1 v2 v3 w1 w2 : Value) (H : View) (cs : List Value) (hT : Tab H) (hd : RepDt H d v1 v2 v3) (hb : d.ranks.length ≤ 1048576 ∧ d.acc.length ≤ 1048576 ∧ d.to.length ≤ 1048576 ∧ ∀ x ∈ d.to, x.length ≤ 1048576) (h1 : SI H w1 ls) (h2 : SI H w2 rk) (hb1 : ls.length ≤ 1048576) (hb2 : rk.length ≤ 1048576) (hr : RepT H t cs) (hbt : t.size ≤ 1073741824) :
    Sat Tryd.prog F6 #[.agg #[v1, v2, v3], w1, w2, .agg cs.toArray] H (fun v _ => v = .bool true) := by
  obtain ⟨x0, x1, x2, x3, rfl⟩ := hr.shape
  obtain ⟨a1, k1, rfl⟩ := h1.shape
  obtain ⟨a2, k2, rfl⟩ := h2.shape
  obtain ⟨ua1, uc1x, rfl⟩ := hd.r.shape
  obtain ⟨ua2, uc2x, rfl⟩ := hd.a.shape
  obtain ⟨ua3, uc3x, rfl⟩ := hd.t.shape
  refine enterO (n := 107) (args := [.agg #[.slice ua1 d.ranks.length uc1x, .slice ua2 d.acc.length uc2x, .slice ua3 d.to.length uc3x], .slice a1 ls.length k1, .slice a2 rk.length k2, .agg #[.int .i64 x0, .slice x1 x2 x3]]) Tryd.func6 rfl rfl rfl fun w0 => ?_
  refine K_seq ?_
  refine K_region ?_
  refine KA (A_box rfl) rfl fun b4 => ?_
  refine KA (A_box rfl) rfl fun b7 => ?_
  refine KV (R_assign rfl) rfl ?_
  refine K_nil ?_
  refine Q_then ?_
  refine K_seq ?_
  refine K_seq ?_
  refine K_region ?_
  refine K_call c7 rfl rfl (known_spec H hT) ?_
  rintro _ V1 hv1 rfl
  refine KV (R_not rfl) rfl ?_
  refine KV (R_move rfl) rfl ?_
  refine K_splitB ?_ ?_
  ·
    intro h16
    cases h16
  ·
    intro h16
    refine K_gyes rfl rfl ?_
    refine KV (R_loadO ty63 1 rfl rfl rfl rfl (fun e => by cases e) rfl) rfl ?_
    refine K_gyes rfl rfl ?_
    refine K_call c26 rfl rfl (small_spec d _ _ _ V1 (hd.mono hv1) hb) ?_
    rintro _ V2 hv2 ⟨b18, rfl, hsml⟩
    refine K_gyes rfl rfl ?_
    refine KV (R_not rfl) rfl ?_
    refine KV (R_pickF rfl rfl) rfl ?_
    refine KV (R_move rfl) rfl ?_
    refine K_splitB ?_ ?_
    ·
      intro h21
      refine K_gno rfl rfl rfl rfl ?_
      refine K_gno rfl rfl rfl rfl ?_
      refine K_gno rfl rfl rfl rfl ?_
      refine KV (R_pickT rfl rfl) rfl ?_
      refine KV (R_move rfl) rfl ?_
      refine K_gno rfl rfl rfl rfl ?_
      refine K_gno rfl rfl rfl rfl ?_
      refine K_gno rfl rfl rfl rfl ?_
      refine KV (R_pickT rfl rfl) rfl ?_
      refine KV (R_move rfl) rfl ?_
      refine K_gno rfl rfl rfl rfl ?_
      refine K_gno rfl rfl rfl rfl ?_
      refine K_gno rfl rfl rfl rfl ?_
      refine KV (R_pickT rfl rfl) rfl ?_
      refine K_nil ?_
      refine Q_then ?_
      refine K_ifT rfl ?_
      refine K_seq ?_
      refine K_region ?_
      refine K_call c7 rfl rfl (known_spec _ (hT.mono (by first | exact hv1 | exact hv1.trans hv2 | exact hv1.trans (hv2.trans hv3)))) ?_
      rintro _ V99 hv99 rfl
      refine KV (R_assign rfl) rfl ?_
      refine K_nil ?_
      refine Q_then ?_
      refine K_ret ?_
      refine Q_then_ret ?_
      refine results_gen (rs := [.tmp 8]) (vs := [_]) rfl ⟨rfl, trivial⟩ ?_
      first | rfl | (refine congrArg Value.bool ?_; rw [hacc]; simp) | (refine congrArg Value.bool ?_; simp)
    ·
      intro h21
      refine K_gyes rfl rfl ?_
      refine KV (R_move rfl) rfl ?_
      refine K_gyes rfl rfl ?_
      refine KV (R_len sl25 rfl) rfl ?_
      refine K_gyes rfl rfl ?_
      refine KV (R_cmp rfl rfl rfl) rfl ?_
      refine KV (R_pickF rfl rfl) rfl ?_
      refine KV (R_move rfl) rfl ?_
      refine K_split ?_ ?_
      ·
        intro h26
        refine K_gno rfl rfl rfl rfl ?_
        refine K_gno rfl rfl rfl rfl ?_
        refine K_gno rfl rfl rfl rfl ?_
        refine KV (R_pickT rfl rfl) rfl ?_
        refine KV (R_move rfl) rfl ?_
        refine K_gno rfl rfl rfl rfl ?_
        refine K_gno rfl rfl rfl rfl ?_
        refine K_gno rfl rfl rfl rfl ?_
        refine KV (R_pickT rfl rfl) rfl ?_
        refine K_nil ?_
        refine Q_then ?_
        refine K_ifT rfl ?_
        refine K_seq ?_
        refine K_region ?_
        refine K_call c7 rfl rfl (known_spec _ (hT.mono (by first | exact hv1 | exact hv1.trans hv2 | exact hv1.trans (hv2.trans hv3)))) ?_
        rintro _ V99 hv99 rfl
        refine KV (R_assign rfl) rfl ?_
        refine K_nil ?_
        refine Q_then ?_
        refine K_ret ?_
        refine Q_then_ret ?_
        refine results_gen (rs := [.tmp 8]) (vs := [_]) rfl ⟨rfl, trivial⟩ ?_
        first | rfl | (refine congrArg Value.bool ?_; rw [hacc]; simp) | (refine congrArg Value.bool ?_; simp)
      ·
        intro h26
        refine K_gyes rfl rfl ?_
        refine KV (R_move rfl) rfl ?_
        refine K_gyes rfl rfl ?_
        refine KV (R_len sl25 rfl) rfl ?_
        refine K_gyes rfl rfl ?_
        refine KV (R_cmp rfl rfl rfl) rfl ?_
        refine KV (R_pickF rfl rfl) rfl ?_
        refine KV (R_move rfl) rfl ?_
        refine K_split ?_ ?_
        ·
          intro h31
          refine K_gno rfl rfl rfl rfl ?_
          refine K_gno rfl rfl rfl rfl ?_
          refine K_gno rfl rfl rfl rfl ?_
          refine KV (R_pickT rfl rfl) rfl ?_
          refine K_nil ?_
          refine Q_then ?_
          refine K_ifT rfl ?_
          refine K_seq ?_
          refine K_region ?_
          refine K_call c7 rfl rfl (known_spec _ (hT.mono (by first | exact hv1 | exact hv1.trans hv2 | exact hv1.trans (hv2.trans hv3)))) ?_
          rintro _ V99 hv99 rfl
          refine KV (R_assign rfl) rfl ?_
          refine K_nil ?_
          refine Q_then ?_
          refine K_ret ?_
          refine Q_then_ret ?_
          refine results_gen (rs := [.tmp 8]) (vs := [_]) rfl ⟨rfl, trivial⟩ ?_
          first | rfl | (refine congrArg Value.bool ?_; rw [hacc]; simp) | (refine congrArg Value.bool ?_; simp)
        ·
          intro h31
          refine K_gyes rfl rfl ?_
          refine KV (R_loadO ty24 0 rfl rfl rfl rfl (fun e => by cases e) rfl) rfl ?_
          refine K_gyes rfl rfl ?_
          refine K_call c34 rfl rfl (short_spec t V2 _ hbt (hr.mono (hv1.trans hv2))) ?_
          rintro _ V3 hv3 rfl
          refine K_gyes rfl rfl ?_
          refine KV (R_notP rfl) rfl ?_
          refine KV (R_pickF rfl rfl) rfl ?_
          refine K_nil ?_
          refine Q_then ?_
          refine K_if rfl (fun h35 => ?_) (fun h35 => ?_)
          ·
            refine K_seq ?_
            refine K_region ?_
            refine K_call c7 rfl rfl (known_spec _ (hT.mono (by first | exact hv1 | exact hv1.trans hv2 | exact hv1.trans (hv2.trans hv3)))) ?_
            rintro _ V99 hv99 rfl
            refine KV (R_assign rfl) rfl ?_
            refine K_nil ?_
            refine Q_then ?_
            refine K_ret ?_
            refine Q_then_ret ?_
            refine results_gen (rs := [.tmp 8]) (vs := [_]) rfl ⟨rfl, trivial⟩ ?_
            first | rfl | (refine congrArg Value.bool ?_; rw [hacc]; simp) | (refine congrArg Value.bool ?_; simp)
          ·
            have hsm9 := Decidable.not_not.1 h35
            obtain ⟨E, X, hc, hall⟩ := inv_ways d ls rk
            refine K_skip ?_
            refine Q_then ?_
            refine K_seq ?_
            refine K_region ?_
            refine KV (R_loadO ty63 1 rfl rfl rfl rfl (fun e => by cases e) rfl) rfl ?_
            refine K_call c28 rfl rfl (l33from_spec d _ _ _ V3 (hd.mono (hv1.trans (hv2.trans hv3)))) ?_
            rintro _ V4 hv4 rfl
            refine KV (R_move rfl) rfl ?_
            refine KV (R_move rfl) rfl ?_
            have hv04 : VLe H V4 := hv1.trans (hv2.trans (hv3.trans hv4))
            refine K_call c35 rfl rfl (inv_spec d ls rk _ _ _ _ _ V4 (hd.mono hv04) hb (h1.mono hv04) (h2.mono hv04) hb1 hb2) ?_
            rintro _ V5 hv5 ⟨e1, e2, e3, rfl, hX⟩
            rw [hc] at hX ⊢
            dsimp only at hX ⊢
            have hd5 := hd.mono (hv04.trans hv5)
            have h15 := h1.mono (hv04.trans hv5)
            have h25 := h2.mono (hv04.trans hv5)
            have hr5 := hr.mono (hv04.trans hv5)
            obtain ⟨ea1, ec1x, rfl⟩ := hX.r.shape
            obtain ⟨ea2, ec2x, rfl⟩ := hX.a.shape
            obtain ⟨ea3, ec3x, rfl⟩ := hX.t.shape
            refine KV (R_move rfl) rfl ?_
            refine KV (R_extract rfl rfl) rfl ?_
            refine KV (R_extract rfl rfl) rfl ?_
            refine KA (A_alloc z54) rfl fun b9 => ?_
            refine K_store ty54 0 rfl rfl rfl rfl rfl rfl ?_
            refine KV (R_assign rfl) rfl ?_
            refine K_nil ?_
            refine Q_then ?_
            refine K_seq ?_
            rcases hall with ⟨he, rfl, rfl⟩ | ⟨he, hrk, rfl, rfl⟩ | ⟨he, hrk, hm, rfl, rfl⟩ | ⟨he, hrk, hm, rfl, rfl⟩
            ·
              refine K_region ?_
              refine KV (R_loadO ty63 2 rfl rfl rfl rfl (fun e => by cases e) rfl) rfl ?_
              refine K_call c29 rfl rfl (rdcheck_spec d _ _ _ V5 hd5 hb) ?_
              rintro _ V6 hv6 rfl
              refine KV (R_assign rfl) rfl ?_
              refine K_nil ?_
              refine Q_then ?_
              refine K_seq ?_
              refine K_seq ?_
              refine K_region ?_
              refine KV (R_move rfl) rfl ?_
              refine KV (R_cmp rfl rfl rfl) rfl ?_
              refine K_nil ?_
              refine Q_then ?_
              refine K_if rfl (fun h48 => ?_) (fun h48 => ?_)
              ·
                exact absurd h48 he
              ·
                refine K_skip ?_
                refine Q_then ?_
                refine K_seq ?_
                refine K_seq ?_
                refine K_region ?_
                refine KV (R_move rfl) rfl ?_
                refine KV (R_cmp rfl rfl rfl) rfl ?_
                refine KV (R_move rfl) rfl ?_
                refine K_split ?_ ?_
                ·
                  intro h53
                  exact absurd h53 he
                ·
                  intro h53
                  refine K_gno rfl rfl rfl rfl ?_
                  refine K_gno rfl rfl rfl rfl ?_
                  refine K_gno rfl rfl rfl rfl ?_
                  refine K_gno rfl rfl rfl rfl ?_
                  refine K_gno rfl rfl rfl rfl ?_
                  refine K_gno rfl rfl rfl rfl ?_
                  refine KV (R_pickF rfl rfl) rfl ?_
                  refine K_nil ?_
                  refine Q_then ?_
                  refine K_ifF rfl ?_
                  refine K_skip ?_
                  refine Q_then ?_
                  refine K_seq ?_
                  refine K_seq ?_
                  refine K_region ?_
                  refine KV (R_move rfl) rfl ?_
                  refine KV (R_cmp rfl rfl rfl) rfl ?_
                  refine K_nil ?_
                  refine Q_then ?_
                  refine K_if rfl (fun h62 => ?_) (fun h62 => ?_)
                  ·
                    refine K_seq ?_
                    refine K_region ?_
                    refine KV (R_move rfl) rfl ?_
                    refine KV (R_move rfl) rfl ?_
                    refine KV (R_cmp rfl rfl rfl) rfl ?_
                    refine KV (R_move rfl) rfl ?_
                    refine K_split ?_ ?_
                    ·
                      intro h66
                      refine K_gyes rfl rfl ?_
                      refine KV (R_loadO ty54 0 rfl rfl rfl rfl (fun e => by cases e) rfl) rfl ?_
                      refine K_gyes rfl rfl ?_
                      refine KV (R_build z54 pl54 rfl rfl) rfl ?_
                      refine K_gyes rfl rfl ?_
                      refine K_call c19 rfl rfl (dteq_spec ⟨[], [], []⟩ ⟨[], [], []⟩ _ _ _ _ _ _ _ (hX.mono (by first | exact hv6 | exact hv6.trans hv7 | exact hv6.trans (hv7.trans hv8))) (RepDt.nil _) DtSmall.nil DtSmall.nil) ?_
                      rintro _ V9 hv9 rfl
                      refine KV (R_pickT rfl rfl) rfl ?_
                      refine KV (R_assign rfl) rfl ?_
                      refine K_nil ?_
                      refine Q_then ?_
                      refine K_ret ?_
                      refine Q_then_ret ?_
                      refine results_gen (rs := [.tmp 8]) (vs := [_]) rfl ⟨rfl, trivial⟩ ?_
                      first | rfl | (refine congrArg Value.bool ?_; rw [hacc]; simp) | (refine congrArg Value.bool ?_; simp)
                    ·
                      intro h66
                      exact absurd rfl h66
                  ·
                    exact absurd he h62
            ·
              refine K_region ?_
              refine KV (R_loadO ty63 2 rfl rfl rfl rfl (fun e => by cases e) rfl) rfl ?_
              refine K_call c29 rfl rfl (rdcheck_spec d _ _ _ V5 hd5 hb) ?_
              rintro _ V6 hv6 rfl
              refine KV (R_assign rfl) rfl ?_
              refine K_nil ?_
              refine Q_then ?_
              refine K_seq ?_
              refine K_seq ?_
              refine K_region ?_
              refine KV (R_move rfl) rfl ?_
              refine KV (R_cmp rfl rfl rfl) rfl ?_
              refine K_nil ?_
              refine Q_then ?_
              refine K_if rfl (fun h48 => ?_) (fun h48 => ?_)
              ·
                refine K_region ?_
                refine KV (R_move rfl) rfl ?_
                refine K_call c36 rfl rfl (rcheck31_spec rk _ V6 (h25.mono hv6) (by omega)) ?_
                rintro _ V7 hv7 rfl
                refine KV (R_assign rfl) rfl ?_
                refine K_nil ?_
                refine Q_then ?_
                refine K_seq ?_
                refine K_seq ?_
                refine K_region ?_
                refine KV (R_move rfl) rfl ?_
                refine KV (R_cmp rfl rfl rfl) rfl ?_
                refine KV (R_move rfl) rfl ?_
                refine K_split ?_ ?_
                ·
                  intro h53
                  exact absurd h53 hrk
                ·
                  intro h53
                  refine K_gno rfl rfl rfl rfl ?_
                  refine K_gno rfl rfl rfl rfl ?_
                  refine K_gno rfl rfl rfl rfl ?_
                  refine K_gno rfl rfl rfl rfl ?_
                  refine K_gno rfl rfl rfl rfl ?_
                  refine K_gno rfl rfl rfl rfl ?_
                  refine KV (R_pickF rfl rfl) rfl ?_
                  refine K_nil ?_
                  refine Q_then ?_
                  refine K_ifF rfl ?_
                  refine K_skip ?_
                  refine Q_then ?_
                  refine K_seq ?_
                  refine K_seq ?_
                  refine K_region ?_
                  refine KV (R_move rfl) rfl ?_
                  refine KV (R_cmp rfl rfl rfl) rfl ?_
                  refine K_nil ?_
                  refine Q_then ?_
                  refine K_if rfl (fun h62 => ?_) (fun h62 => ?_)
                  ·
                    refine K_seq ?_
                    refine K_region ?_
                    refine KV (R_move rfl) rfl ?_
                    refine KV (R_move rfl) rfl ?_
                    refine KV (R_cmp rfl rfl rfl) rfl ?_
                    refine KV (R_move rfl) rfl ?_
                    refine K_split ?_ ?_
                    ·
                      intro h66
                      refine K_gyes rfl rfl ?_
                      refine KV (R_loadO ty54 0 rfl rfl rfl rfl (fun e => by cases e) rfl) rfl ?_
                      refine K_gyes rfl rfl ?_
                      refine KV (R_build z54 pl54 rfl rfl) rfl ?_
                      refine K_gyes rfl rfl ?_
                      refine K_call c19 rfl rfl (dteq_spec ⟨[], [], []⟩ ⟨[], [], []⟩ _ _ _ _ _ _ _ (hX.mono (by first | exact hv6 | exact hv6.trans hv7 | exact hv6.trans (hv7.trans hv8))) (RepDt.nil _) DtSmall.nil DtSmall.nil) ?_
                      rintro _ V9 hv9 rfl
                      refine KV (R_pickT rfl rfl) rfl ?_
                      refine KV (R_assign rfl) rfl ?_
                      refine K_nil ?_
                      refine Q_then ?_
                      refine K_ret ?_
                      refine Q_then_ret ?_
                      refine results_gen (rs := [.tmp 8]) (vs := [_]) rfl ⟨rfl, trivial⟩ ?_
                      first | rfl | (refine congrArg Value.bool ?_; rw [hacc]; simp) | (refine congrArg Value.bool ?_; simp)
                    ·
                      intro h66
                      exact absurd rfl h66
                  ·
                    exact absurd hrk h62
              ·
                exact absurd he h48
            ·
              refine K_region ?_
              refine KV (R_loadO ty63 2 rfl rfl rfl rfl (fun e => by cases e) rfl) rfl ?_
              refine K_call c29 rfl rfl (rdcheck_spec d _ _ _ V5 hd5 hb) ?_
              rintro _ V6 hv6 rfl
              refine KV (R_assign rfl) rfl ?_
              refine K_nil ?_
              refine Q_then ?_
              refine K_seq ?_
              refine K_seq ?_
              refine K_region ?_
              refine KV (R_move rfl) rfl ?_
              refine KV (R_cmp rfl rfl rfl) rfl ?_
              refine K_nil ?_
              refine Q_then ?_
              refine K_if rfl (fun h48 => ?_) (fun h48 => ?_)
              ·
                refine K_region ?_
                refine KV (R_move rfl) rfl ?_
                refine K_call c36 rfl rfl (rcheck31_spec rk _ V6 (h25.mono hv6) (by omega)) ?_
                rintro _ V7 hv7 rfl
                refine KV (R_assign rfl) rfl ?_
                refine K_nil ?_
                refine Q_then ?_
                refine K_seq ?_
                refine K_seq ?_
                refine K_region ?_
                refine KV (R_move rfl) rfl ?_
                refine KV (R_cmp rfl rfl rfl) rfl ?_
                refine KV (R_move rfl) rfl ?_
                refine K_split ?_ ?_
                ·
                  intro h53
                  refine K_gyes rfl rfl ?_
                  refine KV (R_move rfl) rfl ?_
                  refine K_gyes rfl rfl ?_
                  refine KV (R_move rfl) rfl ?_
                  refine K_gyes rfl rfl ?_
                  refine KV (R_fieldAddr 0 fd63_0 rfl) rfl ?_
                  refine K_gyes rfl rfl ?_
                  refine KV (R_loadO ty25 2 rfl rfl rfl rfl (fun _ => rfl) rfl) rfl ?_
                  refine K_gyes rfl rfl ?_
                  refine K_call c37 rfl rfl (maps_spec ls rk d.ranks _ _ _ V7 (h15.mono (hv6.trans hv7)) (h25.mono (hv6.trans hv7)) ((hd5.mono (hv6.trans hv7)).r) (by omega)) ?_
                  rintro _ V8 hv8 rfl
                  refine K_gyes rfl rfl ?_
                  refine KV (R_not rfl) rfl ?_
                  refine KV (R_pickT rfl rfl) rfl ?_
                  refine K_nil ?_
                  refine Q_then ?_
                  refine K_ifB rfl (fun h60 => ?_) (fun h60 => ?_)
                  ·
                    refine K_region ?_
                    refine KV (R_assign rfl) rfl ?_
                    refine K_nil ?_
                    refine Q_then ?_
                    refine K_seq ?_
                    refine K_seq ?_
                    refine K_region ?_
                    refine KV (R_move rfl) rfl ?_
                    refine KV (R_cmp rfl rfl rfl) rfl ?_
                    refine K_nil ?_
                    refine Q_then ?_
                    refine K_if rfl (fun h62 => ?_) (fun h62 => ?_)
                    ·
                      refine K_seq ?_
                      refine K_region ?_
                      refine KV (R_move rfl) rfl ?_
                      refine KV (R_move rfl) rfl ?_
                      refine KV (R_cmp rfl rfl rfl) rfl ?_
                      refine KV (R_move rfl) rfl ?_
                      refine K_split ?_ ?_
                      ·
                        intro h66
                        refine K_gyes rfl rfl ?_
                        refine KV (R_loadO ty54 0 rfl rfl rfl rfl (fun e => by cases e) rfl) rfl ?_
                        refine K_gyes rfl rfl ?_
                        refine KV (R_build z54 pl54 rfl rfl) rfl ?_
                        refine K_gyes rfl rfl ?_
                        refine K_call c19 rfl rfl (dteq_spec ⟨[], [], []⟩ ⟨[], [], []⟩ _ _ _ _ _ _ _ (hX.mono (by first | exact hv6 | exact hv6.trans hv7 | exact hv6.trans (hv7.trans hv8))) (RepDt.nil _) DtSmall.nil DtSmall.nil) ?_
                        rintro _ V9 hv9 rfl
                        refine KV (R_pickT rfl rfl) rfl ?_
                        refine KV (R_assign rfl) rfl ?_
                        refine K_nil ?_
                        refine Q_then ?_
                        refine K_ret ?_
                        refine Q_then_ret ?_
                        refine results_gen (rs := [.tmp 8]) (vs := [_]) rfl ⟨rfl, trivial⟩ ?_
                        first | rfl | (refine congrArg Value.bool ?_; rw [hacc]; simp) | (refine congrArg Value.bool ?_; simp)
                      ·
                        intro h66
                        exact absurd rfl h66
                    ·
                      exact absurd (by decide) h62
                  ·
                    rw [hm] at h60; cases h60
                ·
                  intro h53
                  exact absurd hrk h53
              ·
                exact absurd he h48
            ·
              have hdok := DtOk.of he
              have hmm := mapsM_iff.1 hm
              have hXb : (invD d ls rk).ranks.length ≤ 1048576 ∧ (invD d ls rk).acc.length ≤ 1048576 ∧ (invD d ls rk).to.length ≤ 1048576 ∧ ∀ x ∈ (invD d ls rk).to, x.length ≤ 1048576 := ⟨hb2, hb.2.1, by simp only [invD, List.length_map]; exact hb1, by
                intro x hx
                simp only [invD, List.mem_map] at hx
                obtain ⟨s, hs, rfl⟩ := hx
                obtain ⟨j, hj, rfl⟩ := List.getElem_of_mem hs
                have h3 := (hmm.2 j hj (by omega)).1
                have h4 := hdok.tl
                have h5 : ls[j].toNat < d.to.length := by omega
                have h6 : d.to.getD ls[j].toNat [] = d.to[ls[j].toNat] := by simp [List.getD, h5]
                rw [h6]
                exact hb.2.2.2 _ (List.getElem_mem h5)⟩
              have hXs : DtSmall (invD d ls rk) := ⟨Nat.le_trans hXb.1 (by decide), Nat.le_trans hXb.2.1 (by decide), Nat.le_trans hXb.2.2.1 (by decide), fun x hx => Nat.le_trans (hXb.2.2.2 x hx) (by decide)⟩
              refine K_region ?_
              refine KV (R_loadO ty63 2 rfl rfl rfl rfl (fun e => by cases e) rfl) rfl ?_
              refine K_call c29 rfl rfl (rdcheck_spec d _ _ _ V5 hd5 hb) ?_
              rintro _ V6 hv6 rfl
              refine KV (R_assign rfl) rfl ?_
              refine K_nil ?_
              refine Q_then ?_
              refine K_seq ?_
              refine K_seq ?_
              refine K_region ?_
              refine KV (R_move rfl) rfl ?_
              refine KV (R_cmp rfl rfl rfl) rfl ?_
              refine K_nil ?_
              refine Q_then ?_
              refine K_if rfl (fun h48 => ?_) (fun h48 => ?_)
              ·
                refine K_region ?_
                refine KV (R_move rfl) rfl ?_
                refine K_call c36 rfl rfl (rcheck31_spec rk _ V6 (h25.mono hv6) (by omega)) ?_
                rintro _ V7 hv7 rfl
                refine KV (R_assign rfl) rfl ?_
                refine K_nil ?_
                refine Q_then ?_
                refine K_seq ?_
                refine K_seq ?_
                refine K_region ?_
                refine KV (R_move rfl) rfl ?_
                refine KV (R_cmp rfl rfl rfl) rfl ?_
                refine KV (R_move rfl) rfl ?_
                refine K_split ?_ ?_
                ·
                  intro h53
                  refine K_gyes rfl rfl ?_
                  refine KV (R_move rfl) rfl ?_
                  refine K_gyes rfl rfl ?_
                  refine KV (R_move rfl) rfl ?_
                  refine K_gyes rfl rfl ?_
                  refine KV (R_fieldAddr 0 fd63_0 rfl) rfl ?_
                  refine K_gyes rfl rfl ?_
                  refine KV (R_loadO ty25 2 rfl rfl rfl rfl (fun _ => rfl) rfl) rfl ?_
                  refine K_gyes rfl rfl ?_
                  refine K_call c37 rfl rfl (maps_spec ls rk d.ranks _ _ _ V7 (h15.mono (hv6.trans hv7)) (h25.mono (hv6.trans hv7)) ((hd5.mono (hv6.trans hv7)).r) (by omega)) ?_
                  rintro _ V8 hv8 rfl
                  refine K_gyes rfl rfl ?_
                  refine KV (R_not rfl) rfl ?_
                  refine KV (R_pickT rfl rfl) rfl ?_
                  refine K_nil ?_
                  refine Q_then ?_
                  refine K_ifB rfl (fun h60 => ?_) (fun h60 => ?_)
                  ·
                    rw [hm] at h60; cases h60
                  ·
                    have hv58 : VLe V5 V8 := hv6.trans (hv7.trans hv8)
                    refine K_skip ?_
                    refine Q_then ?_
                    refine K_seq ?_
                    refine K_seq ?_
                    refine K_region ?_
                    refine KV (R_move rfl) rfl ?_
                    refine KV (R_cmp rfl rfl rfl) rfl ?_
                    refine K_nil ?_
                    refine Q_then ?_
                    refine K_if rfl (fun h62 => ?_) (fun h62 => ?_)
                    ·
                      exact absurd hrk h62
                    ·
                      refine K_skip ?_
                      refine Q_then ?_
                      refine K_seq ?_
                      refine K_seq ?_
                      refine K_regionD (fin := false) (R := [0, 1, 2, 3, 5, 6, 7, 4, 8, 9, 10, 11]) (by kernel_rfl) mixed (.cons_cons _ (.cons_cons _ (.cons_cons _ (List.nil_sublist _)))) ?_
                      refine D_val rfl rfl rfl (R_move rfl) ?_
                      refine D_val rfl rfl rfl (R_cmp rfl rfl rfl) ?_
                      refine D_val rfl rfl rfl (R_move rfl) ?_
                      refine D_split ?_ ?_
                      ·
                        intro h73
                        exact absurd rfl h73
                      ·
                        intro h73
                        refine D_val rfl rfl rfl (R_loadO ty54 0 rfl rfl rfl rfl (fun e => by cases e) rfl) ?_
                        refine D_val rfl rfl rfl (R_loadO ty63 2 rfl rfl rfl rfl (fun e => by cases e) rfl) ?_
                        refine D_val rfl rfl rfl (R_move rfl) ?_
                        refine D_val rfl rfl rfl (R_move rfl) ?_
                        refine D_call rfl rfl c24 rfl ⟨⟨0, rfl⟩, ⟨1, rfl⟩, ⟨2, rfl⟩, trivial⟩ (l33to_spec (invD d ls rk) _ _ _ V8 (hX.mono hv58)) ?_
                        rintro _ V9 hv9 rfl
                        refine D_call rfl rfl c38 rfl ⟨⟨0, rfl⟩, ⟨1, rfl⟩, ⟨2, rfl⟩, trivial⟩ (rinv_spec d ls rk _ _ _ _ _ V9 (hd5.mono (hv58.trans hv9)) (h15.mono (hv58.trans hv9)) (h25.mono (hv58.trans hv9)) hmm.1 hb2 (by intro x hx; obtain ⟨j, hj, rfl⟩ := List.getElem_of_mem hx; have := (hmm.2 j hj (by omega)).1; have := hdok.tl; omega)) ?_
                        rintro _ V10 hv10 ⟨z1, z2, z3, rfl, hz⟩
                        refine D_call rfl rfl c23 rfl ⟨⟨0, rfl⟩, ⟨1, rfl⟩, ⟨2, rfl⟩, trivial⟩ (rsame_spec (invD d ls rk) (invD d ls rk) _ _ _ _ _ _ V10 (hX.mono (hv58.trans (hv9.trans hv10))) hz hXs hXs) ?_
                        rintro _ V11 hv11 rfl
                        have hv511 := hv58.trans (hv9.trans (hv10.trans hv11))
                        refine D_val rfl rfl rfl (R_notP rfl) ?_
                        refine D_val rfl rfl rfl (R_pickF rfl rfl) ?_
                        refine D_done ?_
                        refine Q_then ?_
                        refine K_if rfl (fun h82 => ?_) (fun h82 => ?_)
                        ·
                          exact absurd ⟨rfl, rfl, rfl⟩ h82
                        ·
                          refine K_skip ?_
                          refine Q_then ?_
                          refine K_seq ?_
                          refine K_seq ?_
                          refine K_region ?_
                          refine KV (R_move rfl) rfl ?_
                          refine KV (R_loadO ty24 1 rfl rfl rfl rfl (fun e => by cases e) rfl) rfl ?_
                          refine K_call c39 rfl rfl (rvalid_spec rk _ t V11 _ hb2 hbt (hr5.mono hv511) (h25.mono hv511)) ?_
                          rintro _ V12 hv12 rfl
                          refine KV (R_cmp rfl rfl rfl) rfl ?_
                          refine K_nil ?_
                          refine Q_then ?_
                          refine K_if rfl (fun h86 => ?_) (fun h86 => ?_)
                          ·
                            refine K_seq ?_
                            refine K_region ?_
                            refine KV (R_assign rfl) rfl ?_
                            refine K_nil ?_
                            refine Q_then ?_
                            refine K_ret ?_
                            refine Q_then_ret ?_
                            refine results_gen (rs := [.tmp 8]) (vs := [_]) rfl ⟨rfl, trivial⟩ ?_
                            first | rfl | (refine congrArg Value.bool ?_; rw [hacc]; simp) | (refine congrArg Value.bool ?_; simp)
                          ·
                            obtain ⟨u, hre, hacc⟩ := inv_accepts he hrk hm (Decidable.not_not.1 h86)
                            refine K_skip ?_
                            refine Q_then ?_
                            refine K_seq ?_
                            refine K_region ?_
                            refine KV (R_loadO ty24 1 rfl rfl rfl rfl (fun e => by cases e) rfl) rfl ?_
                            refine K_call c11 rfl rfl (tree_spec t.size t V12 _ (Nat.le_refl _) (by omega) (hr5.mono (hv511.trans hv12))) ?_
                            rintro _ V13 hv13 ⟨ds0, rfl, hd0⟩
                            refine KV (R_move rfl) rfl ?_
                            refine K_call c10 rfl rfl (relabel_spec ls _ t.size t V13 _ (Nat.le_refl _) (by omega) hd0 (h15.mono (hv511.trans (hv12.trans hv13)))) ?_
                            rintro _ V14 hv14 ⟨ds1, e1', rfl, hres⟩
                            rw [hre] at hres
                            obtain ⟨rfl, hU⟩ := hres
                            have husz := Tr.relabel_size _ _ hre
                            obtain ⟨y0, y1, y2, y3, rfl⟩ := hU.shape
                            have hv514 := hv511.trans (hv12.trans (hv13.trans hv14))
                            refine KV (R_move rfl) rfl ?_
                            refine KV (R_extract rfl rfl) rfl ?_
                            refine KV (R_extract rfl rfl) rfl ?_
                            refine KA (A_alloc z30) rfl fun b12 => ?_
                            refine K_store ty30 0 rfl rfl rfl rfl rfl rfl ?_
                            refine KV (R_assign rfl) rfl ?_
                            refine K_nil ?_
                            refine Q_then ?_
                            refine K_seq ?_
                            refine K_regionD (fin := false) (R := [0, 1, 2, 3, 4, 7, 9, 5, 6, 8, 10, 11, 12, 13]) (by kernel_rfl) mixed (.cons_cons _ (.cons_cons _ (.cons_cons _ (.cons_cons _ (List.nil_sublist _))))) ?_
                            refine D_val rfl rfl rfl (R_move rfl) ?_
                            refine D_val rfl rfl rfl (R_cmp rfl rfl rfl) ?_
                            refine D_val rfl rfl rfl (R_move rfl) ?_
                            refine D_split ?_ ?_
                            ·
                              intro h96
                              refine D_val rfl rfl rfl (R_loadO ty54 1 rfl rfl rfl rfl (fun e => by cases e) rfl) ?_
                              refine D_val rfl rfl rfl (R_loadO ty24 2 rfl rfl rfl rfl (fun e => by cases e) rfl) ?_
                              refine D_val rfl rfl rfl (R_loadO ty63 3 rfl rfl rfl rfl (fun e => by cases e) rfl) ?_
                              refine D_val rfl rfl rfl (R_loadO ty30 0 rfl rfl rfl rfl (fun e => by cases e) rfl) ?_
                              refine D_call rfl rfl c11 rfl ⟨⟨0, rfl⟩, ⟨1, rfl⟩, ⟨2, rfl⟩, ⟨3, rfl⟩, trivial⟩ (tree_spec t.size t V14 _ (Nat.le_refl _) (by omega) (hr5.mono hv514)) ?_
                              rintro _ V15 hv15 ⟨ds2, rfl, hd2⟩
                              refine D_call rfl rfl c40 rfl ⟨⟨0, rfl⟩, ⟨1, rfl⟩, ⟨2, rfl⟩, ⟨3, rfl⟩, trivial⟩ (daccepts_spec (invD d ls rk) _ _ _ t V15 _ hXb hbt (hX.mono (hv514.trans hv15)) hd2) ?_
                              rintro _ V16 hv16 rfl
                              refine D_call rfl rfl c28 rfl ⟨⟨0, rfl⟩, ⟨1, rfl⟩, ⟨2, rfl⟩, ⟨3, rfl⟩, trivial⟩ (l33from_spec d _ _ _ V16 (hd5.mono (hv514.trans (hv15.trans hv16)))) ?_
                              rintro _ V17 hv17 rfl
                              refine D_call rfl rfl c40 rfl ⟨⟨0, rfl⟩, ⟨1, rfl⟩, ⟨2, rfl⟩, ⟨3, rfl⟩, trivial⟩ (daccepts_spec d _ _ _ u V17 _ hb (by omega) (hd5.mono (hv514.trans (hv15.trans (hv16.trans hv17)))) (hU.mono (hv15.trans (hv16.trans hv17)))) ?_
                              rintro _ V18 hv18 rfl
                              refine D_val rfl rfl rfl (R_boolEq (by kernel_rfl) rfl rfl) ?_
                              refine D_val rfl rfl rfl (R_pickT rfl rfl) ?_
                              refine D_val rfl rfl rfl (R_assign rfl) ?_
                              refine D_done ?_
                              refine Q_then ?_
                              refine K_ret ?_
                              refine results_gen (rs := [.tmp 8]) (vs := [_]) rfl ⟨rfl, trivial⟩ ?_
                              first | rfl | (refine congrArg Value.bool ?_; rw [hacc]; simp) | (refine congrArg Value.bool ?_; simp)
                            ·
                              intro h96
                              exact absurd rfl h96
                ·
                  intro h53
                  exact absurd hrk h53
              ·
                exact absurd he h48
end Go.Proofs.X

namespace Go.Proofs.X
open Go Pal Go.Proofs
attribute [local irreducible] Pal.KO Pal.KC Pal.KQ Pal.KD

theorem key_spec2 (r : Rl) (v : Value) (H : View) (hv : SI H v r.args) (hs : i64ok r.sym) (ht : i64ok r.to) (hl : r.args.length ≤ 1099511627776) : Sat Tryd.prog F69 #[.agg #[.int .i64 r.sym, v, .int .i64 r.to]] H (fun w H' => SI H' w (keyL r)) := by
  obtain ⟨a, cp, rfl⟩ := hv.shape
  refine enterO (n := 13) (args := [.agg #[.int .i64 r.sym, .slice a r.args.length cp, .int .i64 r.to]]) Tryd.func69 rfl rfl rfl fun w0 => ?_
  refine K_seq ?_
  refine K_region ?_
  refine KA (A_box rfl) rfl fun b1 => ?_
  refine KV (R_assign rfl) rfl ?_
  refine K_nil ?_
  refine Q_then ?_
  refine K_seq ?_
  refine K_regionD (fin := false) (R := [0, 1, 3, 4, 6, 7, 2, 5, 8, 9, 10]) (by kernel_rfl) mixed (.cons_cons _ (List.nil_sublist _)) ?_
  refine D_val rfl rfl rfl (R_fieldAddr 0 fd100_0 rfl) ?_
  refine D_val rfl rfl rfl (R_loadO ty3 0 rfl rfl rfl rfl (fun _ => rfl) rfl) ?_
  refine D_val rfl rfl rfl (R_fieldAddr 1 fd100_1 rfl) ?_
  refine D_val rfl rfl rfl (R_loadO ty25 0 rfl rfl rfl rfl (fun _ => rfl) rfl) ?_
  refine D_val rfl rfl rfl (R_fieldAddr 2 fd100_2 rfl) ?_
  refine D_val rfl rfl rfl (R_loadO ty3 0 rfl rfl rfl rfl (fun _ => rfl) rfl) ?_
  refine D_alloc rfl rfl rfl (A_buildSlice (vs := [.int .i64 r.sym]) sl25 ty3 z3 rfl rfl (by simp [Value.cells]) (by simp) rfl (by decide)) fun b5 => ?_
  refine D_appendLit 0 ap25 sl25 rfl rfl rfl rfl rfl ⟨⟨0, rfl⟩, trivial⟩ hv.1 (by simp [ints]) rfl (ints_one _) ⟨by omega, by omega⟩ fun a8 k8 => ?_

  refine D_alloc rfl rfl rfl (A_buildSlice (vs := [.int .i64 r.to]) sl25 ty3 z3 rfl rfl (by simp [Value.cells]) (by simp) rfl (by decide)) fun b11 => ?_
  refine D_append1 0 ap25 rfl rfl rfl rfl rfl rfl ⟨⟨0, rfl⟩, trivial⟩ rfl rfl ⟨by omega, by omega⟩ fun a12 k12 hn12 => ?_
  refine D_val rfl rfl rfl (R_assign rfl) ?_
  refine D_done ?_
  refine Q_then ?_
  refine K_ret ?_
  refine KQ_pubrow rfl fun Hp hp hrow => ?_
  refine results_gen (rs := [.tmp 2]) (vs := [_]) rfl ⟨rfl, trivial⟩ ?_
  have h := hrow.sl
  have e : ints (keyL r) = ([Value.int .i64 r.sym] ++ ints r.args) ++ [Value.int .i64 r.to] := by simp [keyL, ints]
  have e2 : (keyL r).length = 1 + r.args.length + 1 := by rw [keyL_len]; omega
  refine ⟨?_, ?_⟩
  · rw [e, e2]; exact h
  · intro x hx
    simp only [keyL, List.mem_cons, List.mem_append, List.not_mem_nil, or_false] at hx
    rcases hx with rfl | hx | rfl
    · exact hs
    · exact hv.2 x hx
    · exact ht

theorem within_spec (xs ys : List Int) (v w : Value) (H : View) (hv : SI H v xs) (hw : SI H w ys) (hl : xs.length ≤ 1099511627776) (hl2 : ys.length ≤ 1099511627776) : Sat Tryd.prog F68 #[v, w] H (fun r _ => r = .bool (decide (∀ x ∈ xs, x ∈ ys))) := by
  obtain ⟨a, cp, rfl⟩ := hv.shape
  obtain ⟨b, cq, rfl⟩ := hw.shape
  refine enterO (n := 19) (args := [.slice a xs.length cp, .slice b ys.length cq]) Tryd.func68 rfl rfl rfl fun w0 => ?_
  refine K_seq ?_
  refine K_region ?_
  refine KV (R_assign rfl) rfl ?_
  refine K_nil ?_
  refine Q_then ?_
  refine K_seq ?_
  refine K_seq ?_
  refine K_region ?_
  refine KV (R_assign rfl) rfl ?_
  refine K_nil ?_
  refine Q_then ?_
  refine K_block ?_
  refine K_loopD (G := Nat × View) [4, 5, 6, 7, 8, 9, 10, 11, 12, 13, 14, 15, 16, 17, 18] (fun g => [(5, .int .i64 (g.1 : Int))]) (fun hl g => hl) (fun g => g.2) (fun g => (g.1 ≤ xs.length) ∧ (VLe H g.2) ∧ (∀ j (h : j < xs.length), j < g.1 → xs[j] ∈ ys)) (fun g => xs.length - g.1) (0, H) ⟨Nat.zero_le _, VLe.refl _, fun j _ h => by simp at h⟩ ⟨rfl, trivial⟩ (by simp only [args0, Nat.reduceAdd, del, memN, beqN, Nat.reduceBEq, cond_true, cond_false]; rfl) rfl rfl ?_
  rintro ⟨k, V⟩ ⟨hk, hV, hyes⟩
  dsimp only at hk hV hyes
  dsimp only [List.set, List.cons_append, List.nil_append]
  refine K_seq ?_
  refine K_seq ?_
  refine K_region ?_
  refine KV (R_move rfl) rfl ?_
  refine KV (R_move rfl) rfl ?_
  refine KV (R_len sl25 rfl) rfl ?_
  refine KV (R_cmp rfl rfl rfl) rfl ?_
  refine K_nil ?_
  refine Q_then ?_
  refine K_if rfl (fun h9 => ?_) (fun h9 => ?_)
  ·
    have hk' : k < xs.length := by omega
    obtain ⟨tb, to_, hte, hta⟩ := (hv.mono hV).get hk'
    cases hte
    refine K_skip ?_
    refine Q_then ?_
    refine K_seq ?_
    refine K_block ?_
    refine K_seq ?_
    refine K_region ?_
    refine KV (R_move rfl) rfl ?_
    refine KV (R_move rfl) rfl ?_
    refine KV (R_move rfl) rfl ?_
    refine KV (R_indexN sl25 ty3 rfl rfl (by omega)) rfl ?_
    refine KV (R_loadH ty3 rfl (hta) rfl (fun _ => rfl) rfl) rfl ?_
    refine K_call c62 rfl rfl (rhas_spec xs[k] ys _ V (hw.mono hV) hl2) ?_
    rintro _ V1 hle1 rfl
    refine KV (R_notP rfl) rfl ?_
    refine K_nil ?_
    refine Q_then ?_
    refine K_if rfl (fun h18 => ?_) (fun h18 => ?_)
    ·
      refine K_seq ?_
      refine K_region ?_
      refine KV (R_assign rfl) rfl ?_
      refine K_nil ?_
      refine Q_then ?_
      refine K_ret ?_
      refine Q_block_ret ?_
      refine Q_then_ret ?_
      refine Q_then_ret ?_
      refine Q_block_ret ?_
      refine Q_then_ret ?_
      refine results_gen (rs := [.tmp 4]) (vs := [_]) rfl ⟨rfl, trivial⟩ ?_
      refine congrArg Value.bool (Eq.symm ?_)
      simp only [decide_eq_false_iff_not]
      exact fun h => h18 (h _ (List.getElem_mem hk'))
    ·
      have hyes2 : ∀ j (h : j < xs.length), j < k + 1 → xs[j] ∈ ys := by
        intro j h hj
        by_cases e : j = k
        · subst e; exact Decidable.not_not.1 h18
        · exact hyes j h (by omega)
      refine K_skip ?_
      refine Q_block ?_
      refine Q_then ?_
      refine K_region ?_
      refine KV (R_move rfl) rfl ?_
      refine KV (R_add rfl rfl (by omega)) rfl ?_
      refine KV (R_assign rfl) rfl ?_
      refine K_nil ?_
      refine Q_nextD (k + 1, V1) ⟨hk', hV.trans hle1, hyes2⟩ (by (try dsimp only); omega) ⟨rfl, trivial⟩ rfl rfl rfl
  ·
    have hk' : k = xs.length := by omega
    refine K_exit ?_
    refine Q_then_exit ?_
    refine Q_then_exit ?_
    refine Q_block_exit ?_
    refine Q_then ?_
    refine K_seq ?_
    refine K_region ?_
    refine KV (R_assign rfl) rfl ?_
    refine K_nil ?_
    refine Q_then ?_
    refine K_ret ?_
    refine results_gen (rs := [.tmp 4]) (vs := [_]) rfl ⟨rfl, trivial⟩ ?_
    refine congrArg Value.bool (Eq.symm ?_)
    simp only [decide_eq_true_eq]
    intro x hx
    obtain ⟨j, hj, rfl⟩ := List.getElem_of_mem hx
    exact hyes j hj (by omega)
end Go.Proofs.X

namespace Go.Proofs.X
open Go Pal Go.Proofs
attribute [local irreducible] Pal.KO Pal.KC Pal.KQ Pal.KD
theorem z42 : zeroOk Tryd.prog T42 (.agg #[.slice none 0 0, .int .i64 0, .slice none 0 0, .slice none 0 0]) := .of (by kernel_rfl)
theorem pl42 : placesOk Tryd.prog T42 [(0, 1), (1, 1), (2, 1), (3, 1)] := ⟨_, Tryd.underlying42, by kernel_rfl⟩
theorem c69 : callable Tryd.prog F69 = true := by kernel_rfl
theorem ap40 : App Tryd.prog T40 T100 3 40 := .of sl40 (by kernel_rfl)
theorem rsorted_spec (a : Au) (vr vu vf : Value) (H : View) (ha : RepAu H a vr vu vf) (hsm : a.rules.length ≤ 1048576) (hst : a.states ≤ 1048576) (har : ∀ r ∈ a.rules, r.args.length ≤ 1048576) : Sat Tryd.prog F67 #[.agg #[vr, .int .i64 a.states, vu, vf]] H (fun r H' => ∃ v1 v2 v3, r = .agg #[v1, .int .i64 a.states, v2, v3] ∧ RepAu H' (sortedM a) v1 v2 v3) := by
  obtain ⟨ra, rcp, rfl⟩ := ha.r.shape
  obtain ⟨fa, fcp, rfl⟩ := ha.f.shape
  obtain ⟨ua, ucp, rfl⟩ := ha.ushape
  have hrl := ha.rl
  have hul := ha.ul
  have hfl := ha.fl
  have hsl := sortR_len
  refine enterO (n := 99) (args := [.agg #[.slice ra a.ranks.length rcp, .int .i64 a.states, .slice ua a.rules.length ucp, .slice fa a.final.length fcp]]) Tryd.func67 rfl rfl rfl fun w0 => ?_
  refine K_seq ?_
  refine K_region ?_
  refine KA (A_box rfl) rfl fun b1 => ?_
  refine KA (A_alloc z42) rfl fun b2 => ?_
  refine K_nil ?_
  refine Q_then ?_
  refine K_seq ?_
  refine K_region ?_
  refine KV (R_fieldAddr 0 fd42_0 rfl) rfl ?_
  refine KV (R_loadO ty25 1 rfl rfl rfl rfl (fun _ => rfl) rfl) rfl ?_
  refine KV (R_fieldAddr 1 fd42_1 rfl) rfl ?_
  refine KV (R_loadO ty3 1 rfl rfl rfl rfl (fun _ => rfl) rfl) rfl ?_
  refine KV (R_build z42 pl42 rfl rfl) rfl ?_
  refine KA (A_alloc z42) rfl fun b3 => ?_
  refine K_store ty42 0 rfl rfl rfl rfl rfl rfl ?_
  refine K_nil ?_
  refine Q_then ?_
  refine K_seq ?_
  refine K_seq ?_
  refine K_region ?_
  refine KV (R_assign rfl) rfl ?_
  refine K_nil ?_
  refine Q_then ?_
  refine K_block ?_
  refine K_loopD (G := Nat × View × Option Addr × Nat × List Value) [4, 5, 12, 13, 14, 15, 16, 17, 18, 19, 20, 21, 22, 23, 24, 25, 26, 27, 28, 29, 30, 31, 32, 33, 34, 35, 36, 37, 38, 39, 40, 41, 42, 43, 44, 45, 46, 47, 48, 49, 50, 51, 52, 53, 54, 55, 56, 57, 58, 59, 60, 61, 62, 63, 64, 65, 66, 67, 68, 69, 70, 71, 72, 73, 74, 75, 76, 77, 78, 79, 80, 81] (fun g => [(4, .int .i64 (g.1 : Int))]) (fun hl g => (hl.set 0 (blk b3 (.cells #[.slice ra a.ranks.length rcp, .int .i64 a.states, .slice g.2.2.1 (sortR (a.rules.take g.1)).length g.2.2.2.1, .slice none 0 0] T42 (0, 0))))) (fun g => g.2.1) (fun g => (g.1 ≤ a.rules.length) ∧ (VLe H g.2.1) ∧ (SlAt g.2.1 (.slice g.2.2.1 (sortR (a.rules.take g.1)).length g.2.2.2.1) (sortR (a.rules.take g.1)).length g.2.2.2.2) ∧ (RepL (RepR g.2.1) 3 (sortR (a.rules.take g.1)) g.2.2.2.2) ∧ ((sortR (a.rules.take g.1)).length ≤ g.2.2.2.1)) (fun g => a.rules.length - g.1) (0, H, none, 0, []) ⟨Nat.zero_le _, VLe.refl _, ⟨none, 0, rfl, .inl ⟨rfl, rfl⟩⟩, .nil, Nat.le_refl _⟩ ⟨rfl, trivial⟩ (by simp only [args0, Nat.reduceAdd, del, memN, beqN, Nat.reduceBEq, cond_true, cond_false]; rfl) rfl rfl ?_
  rintro ⟨i, V, oa, oc, cells⟩ ⟨hi, hV, hS, hC, hoc⟩
  dsimp only at hi hV hS hC hoc
  dsimp only [List.set, List.cons_append, List.nil_append]
  have hln : (sortR (a.rules.take i)).length ≤ i := Nat.le_trans (hsl _) (by rw [List.length_take]; omega)
  have hcl := hC.length
  refine K_seq ?_
  refine K_seq ?_
  refine K_region ?_
  refine KV (R_move rfl) rfl ?_
  refine KV (R_fieldAddr 2 fd42_2 rfl) rfl ?_
  refine KV (R_loadO ty40 2 rfl rfl rfl rfl (fun _ => rfl) rfl) rfl ?_
  refine KV (R_len sl40 rfl) rfl ?_
  refine KV (R_cmp rfl rfl rfl) rfl ?_
  refine K_nil ?_
  refine Q_then ?_
  refine K_if rfl (fun h16 => ?_) (fun h16 => ?_)
  ·
    have hi' : i < a.rules.length := by omega
    obtain ⟨ub, uo, ucp2, xa, xcp, hue, hrc, hsr, hsym, hto, hxl⟩ := (ha.mono hV).rule hi'
    cases hue
    have hari := har _ (List.getElem_mem hi')
    refine K_skip ?_
    refine Q_then ?_
    refine K_seq ?_
    refine K_block ?_
    refine K_seq ?_
    refine K_region ?_
    refine KV (R_assign rfl) rfl ?_
    refine K_nil ?_
    refine Q_then ?_
    refine K_seq ?_
    refine K_block ?_
    refine K_loopD (G := Nat × View) [5, 19, 20, 21, 22, 23, 24, 25, 26, 27, 28, 29, 30, 31, 32, 33, 34, 35, 36, 37, 38, 39, 40, 41] (fun g => [(5, .int .i64 (g.1 : Int))]) (fun hl g => hl) (fun g => g.2) (fun g => (g.1 ≤ (sortR (a.rules.take i)).length) ∧ (VLe V g.2) ∧ (∀ j (h : j < (sortR (a.rules.take i)).length), j < g.1 → cmpL (keyL (sortR (a.rules.take i))[j]) (keyL a.rules[i]) < 0)) (fun g => (sortR (a.rules.take i)).length - g.1) (0, V) ⟨Nat.zero_le _, VLe.refl _, fun j _ h => by simp at h⟩ ⟨rfl, trivial⟩ (by simp only [args0, Nat.reduceAdd, del, memN, beqN, Nat.reduceBEq, cond_true, cond_false]; rfl) rfl rfl ?_
    rintro ⟨at_, U⟩ ⟨hat, hU, hlt⟩
    dsimp only at hat hU hlt
    dsimp only [List.set, List.cons_append, List.nil_append]
    refine K_seq ?_
    refine K_seq ?_
    refine K_regionD (fin := false) (R := [0, 1, 2, 3, 4, 5, 6, 7, 8, 9, 10, 12, 13, 14, 15, 16, 11, 17, 18, 19, 20]) (by kernel_rfl) mixed (.cons_cons _ (.cons_cons _ (.cons_cons _ (List.nil_sublist _)))) ?_
    refine D_val rfl rfl rfl (R_move rfl) ?_
    refine D_val rfl rfl rfl (R_fieldAddr 2 fd42_2 rfl) ?_
    refine D_val rfl rfl rfl (R_loadO ty40 0 rfl rfl rfl rfl (fun _ => rfl) rfl) ?_
    refine D_val rfl rfl rfl (R_len sl40 rfl) ?_
    refine D_val rfl rfl rfl (R_cmp rfl rfl rfl) ?_
    refine D_val rfl rfl rfl (R_move rfl) ?_
    refine D_split ?_ ?_
    ·
      intro h24
      have hat' : at_ < (sortR (a.rules.take i)).length := by omega
      obtain ⟨ob, oo, oa2, ocp2, hoe, hoc2, hos, hosy, hoto, hol⟩ := rules_elem (hS.mono hU) (RepR.imp3 hU hC) hat'
      cases hoe
      have haro := har _ (List.mem_of_mem_take (sortR_mem (List.getElem_mem hat')))
      refine D_val rfl rfl rfl (R_fieldAddr 2 fd42_2 rfl) ?_
      refine D_val rfl rfl rfl (R_loadO ty40 0 rfl rfl rfl rfl (fun _ => rfl) rfl) ?_
      refine D_val rfl rfl rfl (R_move rfl) ?_
      refine D_val rfl rfl rfl (R_indexN sl40 ty100 rfl rfl (by omega)) ?_
      refine D_val rfl rfl rfl (R_loadH ty100 rfl (hoc2) rfl (fun e => by cases e) rfl) ?_
      refine D_val rfl rfl rfl (R_fieldAddr 2 fd42_2 rfl) ?_
      refine D_val rfl rfl rfl (R_loadO ty40 2 rfl rfl rfl rfl (fun _ => rfl) rfl) ?_
      refine D_val rfl rfl rfl (R_move rfl) ?_
      refine D_val rfl rfl rfl (R_indexN sl40 ty100 rfl rfl (by omega)) ?_
      refine D_val rfl rfl rfl (R_loadH ty100 rfl (hrc.mono hU) rfl (fun e => by cases e) rfl) ?_
      refine D_call rfl rfl c69 rfl ⟨⟨0, rfl⟩, ⟨1, rfl⟩, ⟨2, rfl⟩, trivial⟩ (key_spec2 (sortR (a.rules.take i))[at_] _ U hos hosy hoto hol) ?_
      rintro kv1 U1a hUa hk1
      obtain ⟨ka1, kc1x, rfl⟩ := hk1.shape
      refine D_call rfl rfl c69 rfl ⟨⟨0, rfl⟩, ⟨1, rfl⟩, ⟨2, rfl⟩, trivial⟩ (key_spec2 a.rules[i] _ U1a (hsr.mono (hU.trans hUa)) hsym hto hxl) ?_
      rintro kv2 U1b hUb hk2
      obtain ⟨ka2, kc2x, rfl⟩ := hk2.shape
      refine D_call rfl rfl c60 rfl ⟨⟨0, rfl⟩, ⟨1, rfl⟩, ⟨2, rfl⟩, trivial⟩ (cmpl_spec (keyL (sortR (a.rules.take i))[at_]) (keyL a.rules[i]) _ _ U1b (hk1.mono hUb) hk2 (by rw [keyL_len]; omega) (by rw [keyL_len]; omega)) ?_
      rintro _ U1c hUc0 rfl
      have hUc : VLe U U1c := hUa.trans (hUb.trans hUc0)
      refine D_val rfl rfl rfl (R_cmp rfl rfl rfl) ?_
      refine D_val rfl rfl rfl (R_pickT rfl rfl) ?_
      refine D_done ?_
      refine Q_then ?_
      refine K_if rfl (fun h39 => ?_) (fun h39 => ?_)
      ·
        have hlt2 : ∀ j (h : j < (sortR (a.rules.take i)).length), j < at_ + 1 → cmpL (keyL (sortR (a.rules.take i))[j]) (keyL a.rules[i]) < 0 := by
          intro j h hj
          by_cases e : j = at_
          · subst e; exact h39
          · exact hlt j h (by omega)
        refine K_skip ?_
        refine Q_then ?_
        refine K_block ?_
        refine K_region ?_
        refine KV (R_move rfl) rfl ?_
        refine KV (R_add rfl rfl (by omega)) rfl ?_
        refine KV (R_assign rfl) rfl ?_
        refine K_nil ?_
        refine Q_block ?_
        refine Q_nextD (at_ + 1, U1c) ⟨hat', hU.trans hUc, hlt2⟩ (by (try dsimp only); omega) ⟨rfl, trivial⟩ rfl rfl rfl
      ·
        have hstop : ∀ h : at_ < (sortR (a.rules.take i)).length, ¬ cmpL (keyL (sortR (a.rules.take i))[at_]) (keyL a.rules[i]) < 0 := fun _ => h39
        have hVU := hU.trans hUc
        refine K_exit ?_
        refine Q_then_exit ?_
        refine Q_then_exit ?_
        refine Q_block_exit ?_
        refine Q_then ?_
        refine K_seq ?_
        refine K_seq ?_
        refine K_regionD (fin := false) (R := [0, 1, 2, 3, 4, 5, 6, 7, 8, 9, 10, 12, 13, 14, 15, 16, 11, 17, 18, 19, 20]) (by kernel_rfl) mixed (.cons_cons _ (.cons_cons _ (.cons_cons _ (List.nil_sublist _)))) ?_
        refine D_val rfl rfl rfl (R_move rfl) ?_
        refine D_val rfl rfl rfl (R_fieldAddr 2 fd42_2 rfl) ?_
        refine D_val rfl rfl rfl (R_loadO ty40 0 rfl rfl rfl rfl (fun _ => rfl) rfl) ?_
        refine D_val rfl rfl rfl (R_len sl40 rfl) ?_
        refine D_val rfl rfl rfl (R_cmp rfl rfl rfl) ?_
        refine D_val rfl rfl rfl (R_move rfl) ?_
        refine D_split ?_ ?_
        ·
          intro h47
          have hat4 : at_ < (sortR (a.rules.take i)).length := by omega
          obtain ⟨ob4, oo4, oa4, ocp4, hoe4, hoc4, hos4, hosy4, hoto4, hol4⟩ := rules_elem (hS.mono hVU) (RepR.imp3 hVU hC) hat4
          cases hoe4
          have haro4 := har _ (List.mem_of_mem_take (sortR_mem (List.getElem_mem hat4)))
          refine D_val rfl rfl rfl (R_fieldAddr 2 fd42_2 rfl) ?_
          refine D_val rfl rfl rfl (R_loadO ty40 0 rfl rfl rfl rfl (fun _ => rfl) rfl) ?_
          refine D_val rfl rfl rfl (R_move rfl) ?_
          refine D_val rfl rfl rfl (R_indexN sl40 ty100 rfl rfl (by omega)) ?_
          refine D_val rfl rfl rfl (R_loadH ty100 rfl (hoc4) rfl (fun e => by cases e) rfl) ?_
          refine D_val rfl rfl rfl (R_fieldAddr 2 fd42_2 rfl) ?_
          refine D_val rfl rfl rfl (R_loadO ty40 2 rfl rfl rfl rfl (fun _ => rfl) rfl) ?_
          refine D_val rfl rfl rfl (R_move rfl) ?_
          refine D_val rfl rfl rfl (R_indexN sl40 ty100 rfl rfl (by omega)) ?_
          refine D_val rfl rfl rfl (R_loadH ty100 rfl (hrc.mono hVU) rfl (fun e => by cases e) rfl) ?_
          refine D_call rfl rfl c69 rfl ⟨⟨0, rfl⟩, ⟨1, rfl⟩, ⟨2, rfl⟩, trivial⟩ (key_spec2 (sortR (a.rules.take i))[at_] _ _ hos4 hosy4 hoto4 hol4) ?_
          rintro kv3 U4a hU4a hk3
          obtain ⟨ka3, kc3x, rfl⟩ := hk3.shape
          refine D_call rfl rfl c69 rfl ⟨⟨0, rfl⟩, ⟨1, rfl⟩, ⟨2, rfl⟩, trivial⟩ (key_spec2 a.rules[i] _ U4a (hsr.mono (hVU.trans hU4a)) hsym hto hxl) ?_
          rintro kv4 U4b hU4b hk4
          obtain ⟨ka4, kc4x, rfl⟩ := hk4.shape
          refine D_call rfl rfl c60 rfl ⟨⟨0, rfl⟩, ⟨1, rfl⟩, ⟨2, rfl⟩, trivial⟩ (cmpl_spec (keyL (sortR (a.rules.take i))[at_]) (keyL a.rules[i]) _ _ U4b (hk3.mono hU4b) hk4 (by rw [keyL_len]; omega) (by rw [keyL_len]; omega)) ?_
          rintro _ U4c hU4c rfl
          have hUcy := hU4a.trans (hU4b.trans hU4c)
          refine D_val rfl rfl rfl (R_cmp rfl rfl rfl) ?_
          refine D_val rfl rfl rfl (R_pickT rfl rfl) ?_
          refine D_done ?_
          refine Q_then ?_
          refine K_if rfl (fun h62 => ?_) (fun h62 => ?_)
          ·
            have hU2 := hVU.trans hUcy
            have hins : insR a.rules[i] (sortR (a.rules.take i)) = (sortR (a.rules.take i)) := by rw [insR_at hat hlt hstop, if_pos ⟨hat4, h62⟩]
            refine K_exit ?_
            refine Q_then_exit ?_
            refine Q_block_exit ?_
            refine Q_then ?_
            refine K_region ?_
            refine KV (R_move rfl) rfl ?_
            refine KV (R_add rfl rfl (by omega)) rfl ?_
            refine KV (R_assign rfl) rfl ?_
            refine K_nil ?_
            refine Q_nextD (i + 1, _, _, oc, cells) ⟨hi', hV.trans hU2, by rw [sortR_take hi', hins]; exact hS.mono hU2, by rw [sortR_take hi', hins]; exact hC.imp fun _ _ h => h.mono hU2, by rw [sortR_take hi', hins]; exact hoc⟩ (by (try dsimp only); omega) ⟨rfl, trivial⟩ rfl (by dsimp only; rw [sortR_take hi', hins]) rfl
          ·
            have hU2 := hVU.trans hUcy
            have hins : insR a.rules[i] (sortR (a.rules.take i)) = (sortR (a.rules.take i)).take at_ ++ a.rules[i] :: (sortR (a.rules.take i)).drop at_ := by rw [insR_at hat hlt hstop, if_neg (by rintro ⟨_, h⟩; exact h62 h)]
            refine K_skip ?_
            refine Q_then ?_
            refine K_regionD (fin := true) (R := [1, 2, 3, 4, 6, 7, 8, 9, 10, 13, 14, 15, 16, 0, 5, 11, 12, 17, 18, 19]) (by kernel_rfl) mixed (.cons_cons _ (.cons_cons _ (.cons_cons _ (List.nil_sublist _)))) ?_
            refine D_val rfl rfl rfl (R_fieldAddr 2 fd42_2 rfl) ?_
            refine D_val rfl rfl rfl (R_loadO ty40 0 rfl rfl rfl rfl (fun _ => rfl) rfl) ?_
            refine D_val rfl rfl rfl (R_move rfl) ?_
            refine D_val rfl rfl rfl (R_sliceHi sl40 ty100 rfl rfl (Nat.le_trans hat hoc)) ?_
            refine D_val rfl rfl rfl (R_fieldAddr 2 fd42_2 rfl) ?_
            refine D_val rfl rfl rfl (R_loadO ty40 2 rfl rfl rfl rfl (fun _ => rfl) rfl) ?_
            refine D_val rfl rfl rfl (R_move rfl) ?_
            refine D_val rfl rfl rfl (R_indexN sl40 ty100 rfl rfl (by omega)) ?_
            refine D_val rfl rfl rfl (R_loadH ty100 rfl (hrc.mono hU2) rfl (fun e => by cases e) rfl) ?_
            refine D_val rfl rfl rfl (R_fieldAddr 2 fd42_2 rfl) ?_
            refine D_val rfl rfl rfl (R_loadO ty40 0 rfl rfl rfl rfl (fun _ => rfl) rfl) ?_
            refine D_val rfl rfl rfl (R_move rfl) ?_
            refine D_val rfl rfl rfl (R_sliceLo sl40 ty100 rfl rfl hat) ?_
            refine D_alloc rfl rfl rfl (A_buildSlice (vs := []) sl40 ty100 z100 rfl rfl (by simp) (by simp) rfl (by decide)) fun b63 => ?_
            have hcl3 : (cells.take (at_ * 3)).length = at_ * 3 := by rw [List.length_take, hcl]; omega
            refine D_append0 0 ap40 sl40 rfl rfl rfl rfl rfl ⟨⟨0, rfl⟩, ⟨1, rfl⟩, ⟨2, rfl⟩, trivial⟩ ((hS.mono hU2).hi hat hoc) hcl3 ((hC.take at_).oneCell fun _ _ h => h.one) ⟨by omega, by omega⟩ fun a68 k68 => ?_

            refine D_alloc rfl rfl rfl (A_buildSlice (vs := [.agg #[.int .i64 a.rules[i].sym, .slice xa a.rules[i].args.length xcp, .int .i64 a.rules[i].to]]) sl40 ty100 z100 rfl rfl (by simp [Value.cells]) (by simp) rfl (by decide)) fun b74 => ?_
            refine D_append1 0 ap40 rfl rfl rfl rfl rfl rfl ⟨⟨0, rfl⟩, ⟨1, rfl⟩, ⟨2, rfl⟩, trivial⟩ rfl rfl ⟨by omega, by omega⟩ fun a75 k75 hn75 => ?_
            have hcl4 : (cells.drop (at_ * 3)).length = ((sortR (a.rules.take i)).length - at_) * 3 := by rw [List.length_drop, hcl, Nat.sub_mul]
            refine D_appendS 0 ap40 sl40 rfl rfl rfl rfl rfl ⟨⟨0, rfl⟩, ⟨1, rfl⟩, ⟨2, rfl⟩, trivial⟩ ((hS.mono hU2).lo hcl hat hoc) hcl4 ((hC.drop at_).oneCell fun _ _ h => h.one) ⟨by omega, by omega⟩ fun a80 k80 => ?_

            refine D_val rfl rfl rfl (R_fieldAddr 2 fd42_2 rfl) ?_
            refine D_lastStore ty40 1 rfl rfl rfl rfl rfl rfl rfl rfl ?_
            refine KQ_front 0 rfl ?_
            refine KQ_pubrowC rfl fun Hp hp hrow hzc => ?_
            obtain ⟨za, zc, hze, hzc⟩ := hzc
            cases hze
            have hnl : ((sortR (a.rules.take i)).take at_ ++ a.rules[i] :: (sortR (a.rules.take i)).drop at_).length = at_ + 1 + ((sortR (a.rules.take i)).length - at_) := by simp only [List.length_append, List.length_cons, List.length_take, List.length_drop]; omega
            have hcat : (sortR (a.rules.take i)).take at_ ++ a.rules[i] :: (sortR (a.rules.take i)).drop at_ = ((sortR (a.rules.take i)).take at_ ++ [a.rules[i]]) ++ (sortR (a.rules.take i)).drop at_ := by simp
            refine Q_block ?_
            refine Q_then ?_
            refine K_region ?_
            refine KV (R_move rfl) rfl ?_
            refine KV (R_add rfl rfl (by omega)) rfl ?_
            refine KV (R_assign rfl) rfl ?_
            refine K_nil ?_
            refine Q_nextD (i + 1, Hp, a80, k80, (cells.take (at_ * 3) ++ [.int .i64 a.rules[i].sym, .slice xa a.rules[i].args.length xcp, .int .i64 a.rules[i].to]) ++ cells.drop (at_ * 3)) ⟨hi', hV.trans (hU2.trans hp), by rw [sortR_take hi', hins, hnl]; exact hrow.sl, by rw [sortR_take hi', hins, hcat]; exact (((hC.take at_).imp fun _ _ h => h.mono (hU2.trans hp)).snoc ((RepR.of_rule hsr hsym hto hxl).mono (hU2.trans hp)) rfl).append ((hC.drop at_).imp fun _ _ h => h.mono (hU2.trans hp)), by rw [sortR_take hi', hins, hnl]; exact hzc⟩ (by (try dsimp only); omega) ⟨rfl, trivial⟩ rfl (by dsimp only; rw [sortR_take hi', hins, hnl]; rfl) rfl
        ·
          intro h47
          have hU2 := hVU
          have hins : insR a.rules[i] (sortR (a.rules.take i)) = (sortR (a.rules.take i)).take at_ ++ a.rules[i] :: (sortR (a.rules.take i)).drop at_ := by rw [insR_at hat hlt hstop, if_neg (by rintro ⟨h, _⟩; omega)]
          refine D_skip rfl rfl ?_
          refine D_skip rfl rfl ?_
          refine D_skip rfl rfl ?_
          refine D_skip rfl rfl ?_
          refine D_skip rfl rfl ?_
          refine D_skip rfl rfl ?_
          refine D_skip rfl rfl ?_
          refine D_skip rfl rfl ?_
          refine D_skip rfl rfl ?_
          refine D_skip rfl rfl ?_
          refine D_skip rfl rfl ?_
          refine D_skip rfl rfl ?_
          refine D_skip rfl rfl ?_
          refine D_skip rfl rfl ?_
          refine D_val rfl rfl rfl (R_pickF rfl rfl) ?_
          refine D_done ?_
          refine Q_then ?_
          refine K_ifF rfl ?_
          refine K_skip ?_
          refine Q_then ?_
          refine K_regionD (fin := true) (R := [1, 2, 3, 4, 6, 7, 8, 9, 10, 13, 14, 15, 16, 0, 5, 11, 12, 17, 18, 19]) (by kernel_rfl) mixed (.cons_cons _ (.cons_cons _ (.cons_cons _ (List.nil_sublist _)))) ?_
          refine D_val rfl rfl rfl (R_fieldAddr 2 fd42_2 rfl) ?_
          refine D_val rfl rfl rfl (R_loadO ty40 0 rfl rfl rfl rfl (fun _ => rfl) rfl) ?_
          refine D_val rfl rfl rfl (R_move rfl) ?_
          refine D_val rfl rfl rfl (R_sliceHi sl40 ty100 rfl rfl (Nat.le_trans hat hoc)) ?_
          refine D_val rfl rfl rfl (R_fieldAddr 2 fd42_2 rfl) ?_
          refine D_val rfl rfl rfl (R_loadO ty40 2 rfl rfl rfl rfl (fun _ => rfl) rfl) ?_
          refine D_val rfl rfl rfl (R_move rfl) ?_
          refine D_val rfl rfl rfl (R_indexN sl40 ty100 rfl rfl (by omega)) ?_
          refine D_val rfl rfl rfl (R_loadH ty100 rfl (hrc.mono hU2) rfl (fun e => by cases e) rfl) ?_
          refine D_val rfl rfl rfl (R_fieldAddr 2 fd42_2 rfl) ?_
          refine D_val rfl rfl rfl (R_loadO ty40 0 rfl rfl rfl rfl (fun _ => rfl) rfl) ?_
          refine D_val rfl rfl rfl (R_move rfl) ?_
          refine D_val rfl rfl rfl (R_sliceLo sl40 ty100 rfl rfl hat) ?_
          refine D_alloc rfl rfl rfl (A_buildSlice (vs := []) sl40 ty100 z100 rfl rfl (by simp) (by simp) rfl (by decide)) fun b63 => ?_
          have hcl3 : (cells.take (at_ * 3)).length = at_ * 3 := by rw [List.length_take, hcl]; omega
          refine D_append0 0 ap40 sl40 rfl rfl rfl rfl rfl ⟨⟨0, rfl⟩, ⟨1, rfl⟩, ⟨2, rfl⟩, trivial⟩ ((hS.mono hU2).hi hat hoc) hcl3 ((hC.take at_).oneCell fun _ _ h => h.one) ⟨by omega, by omega⟩ fun a68 k68 => ?_

          refine D_alloc rfl rfl rfl (A_buildSlice (vs := [.agg #[.int .i64 a.rules[i].sym, .slice xa a.rules[i].args.length xcp, .int .i64 a.rules[i].to]]) sl40 ty100 z100 rfl rfl (by simp [Value.cells]) (by simp) rfl (by decide)) fun b74 => ?_
          refine D_append1 0 ap40 rfl rfl rfl rfl rfl rfl ⟨⟨0, rfl⟩, ⟨1, rfl⟩, ⟨2, rfl⟩, trivial⟩ rfl rfl ⟨by omega, by omega⟩ fun a75 k75 hn75 => ?_
          have hcl4 : (cells.drop (at_ * 3)).length = ((sortR (a.rules.take i)).length - at_) * 3 := by rw [List.length_drop, hcl, Nat.sub_mul]
          refine D_appendS 0 ap40 sl40 rfl rfl rfl rfl rfl ⟨⟨0, rfl⟩, ⟨1, rfl⟩, ⟨2, rfl⟩, trivial⟩ ((hS.mono hU2).lo hcl hat hoc) hcl4 ((hC.drop at_).oneCell fun _ _ h => h.one) ⟨by omega, by omega⟩ fun a80 k80 => ?_

          refine D_val rfl rfl rfl (R_fieldAddr 2 fd42_2 rfl) ?_
          refine D_lastStore ty40 1 rfl rfl rfl rfl rfl rfl rfl rfl ?_
          refine KQ_front 0 rfl ?_
          refine KQ_pubrowC rfl fun Hp hp hrow hzc => ?_
          obtain ⟨za, zc, hze, hzc⟩ := hzc
          cases hze
          have hnl : ((sortR (a.rules.take i)).take at_ ++ a.rules[i] :: (sortR (a.rules.take i)).drop at_).length = at_ + 1 + ((sortR (a.rules.take i)).length - at_) := by simp only [List.length_append, List.length_cons, List.length_take, List.length_drop]; omega
          have hcat : (sortR (a.rules.take i)).take at_ ++ a.rules[i] :: (sortR (a.rules.take i)).drop at_ = ((sortR (a.rules.take i)).take at_ ++ [a.rules[i]]) ++ (sortR (a.rules.take i)).drop at_ := by simp
          refine Q_block ?_
          refine Q_then ?_
          refine K_region ?_
          refine KV (R_move rfl) rfl ?_
          refine KV (R_add rfl rfl (by omega)) rfl ?_
          refine KV (R_assign rfl) rfl ?_
          refine K_nil ?_
          refine Q_nextD (i + 1, Hp, a80, k80, (cells.take (at_ * 3) ++ [.int .i64 a.rules[i].sym, .slice xa a.rules[i].args.length xcp, .int .i64 a.rules[i].to]) ++ cells.drop (at_ * 3)) ⟨hi', hV.trans (hU2.trans hp), by rw [sortR_take hi', hins, hnl]; exact hrow.sl, by rw [sortR_take hi', hins, hcat]; exact (((hC.take at_).imp fun _ _ h => h.mono (hU2.trans hp)).snoc ((RepR.of_rule hsr hsym hto hxl).mono (hU2.trans hp)) rfl).append ((hC.drop at_).imp fun _ _ h => h.mono (hU2.trans hp)), by rw [sortR_take hi', hins, hnl]; exact hzc⟩ (by (try dsimp only); omega) ⟨rfl, trivial⟩ rfl (by dsimp only; rw [sortR_take hi', hins, hnl]; rfl) rfl
    ·
      intro h24
      have hate : at_ = (sortR (a.rules.take i)).length := by omega
      have hstop : ∀ h : at_ < (sortR (a.rules.take i)).length, ¬ cmpL (keyL (sortR (a.rules.take i))[at_]) (keyL a.rules[i]) < 0 := fun h => absurd h (by omega)
      have hVU := hU
      refine D_skip rfl rfl ?_
      refine D_skip rfl rfl ?_
      refine D_skip rfl rfl ?_
      refine D_skip rfl rfl ?_
      refine D_skip rfl rfl ?_
      refine D_skip rfl rfl ?_
      refine D_skip rfl rfl ?_
      refine D_skip rfl rfl ?_
      refine D_skip rfl rfl ?_
      refine D_skip rfl rfl ?_
      refine D_skip rfl rfl ?_
      refine D_skip rfl rfl ?_
      refine D_skip rfl rfl ?_
      refine D_skip rfl rfl ?_
      refine D_val rfl rfl rfl (R_pickF rfl rfl) ?_
      refine D_done ?_
      refine Q_then ?_
      refine K_ifF rfl ?_
      refine K_exit ?_
      refine Q_then_exit ?_
      refine Q_then_exit ?_
      refine Q_block_exit ?_
      refine Q_then ?_
      refine K_seq ?_
      refine K_seq ?_
      refine K_regionD (fin := false) (R := [0, 1, 2, 3, 4, 5, 6, 7, 8, 9, 10, 12, 13, 14, 15, 16, 11, 17, 18, 19, 20]) (by kernel_rfl) mixed (.cons_cons _ (.cons_cons _ (.cons_cons _ (List.nil_sublist _)))) ?_
      refine D_val rfl rfl rfl (R_move rfl) ?_
      refine D_val rfl rfl rfl (R_fieldAddr 2 fd42_2 rfl) ?_
      refine D_val rfl rfl rfl (R_loadO ty40 0 rfl rfl rfl rfl (fun _ => rfl) rfl) ?_
      refine D_val rfl rfl rfl (R_len sl40 rfl) ?_
      refine D_val rfl rfl rfl (R_cmp rfl rfl rfl) ?_
      refine D_val rfl rfl rfl (R_move rfl) ?_
      refine D_split ?_ ?_
      ·
        intro h47
        have hat4 : at_ < (sortR (a.rules.take i)).length := by omega
        obtain ⟨ob4, oo4, oa4, ocp4, hoe4, hoc4, hos4, hosy4, hoto4, hol4⟩ := rules_elem (hS.mono hVU) (RepR.imp3 hVU hC) hat4
        cases hoe4
        have haro4 := har _ (List.mem_of_mem_take (sortR_mem (List.getElem_mem hat4)))
        refine D_val rfl rfl rfl (R_fieldAddr 2 fd42_2 rfl) ?_
        refine D_val rfl rfl rfl (R_loadO ty40 0 rfl rfl rfl rfl (fun _ => rfl) rfl) ?_
        refine D_val rfl rfl rfl (R_move rfl) ?_
        refine D_val rfl rfl rfl (R_indexN sl40 ty100 rfl rfl (by omega)) ?_
        refine D_val rfl rfl rfl (R_loadH ty100 rfl (hoc4) rfl (fun e => by cases e) rfl) ?_
        refine D_val rfl rfl rfl (R_fieldAddr 2 fd42_2 rfl) ?_
        refine D_val rfl rfl rfl (R_loadO ty40 2 rfl rfl rfl rfl (fun _ => rfl) rfl) ?_
        refine D_val rfl rfl rfl (R_move rfl) ?_
        refine D_val rfl rfl rfl (R_indexN sl40 ty100 rfl rfl (by omega)) ?_
        refine D_val rfl rfl rfl (R_loadH ty100 rfl (hrc.mono hVU) rfl (fun e => by cases e) rfl) ?_
        refine D_call rfl rfl c69 rfl ⟨⟨0, rfl⟩, ⟨1, rfl⟩, ⟨2, rfl⟩, trivial⟩ (key_spec2 (sortR (a.rules.take i))[at_] _ _ hos4 hosy4 hoto4 hol4) ?_
        rintro kv3 U4a hU4a hk3
        obtain ⟨ka3, kc3x, rfl⟩ := hk3.shape
        refine D_call rfl rfl c69 rfl ⟨⟨0, rfl⟩, ⟨1, rfl⟩, ⟨2, rfl⟩, trivial⟩ (key_spec2 a.rules[i] _ U4a (hsr.mono (hVU.trans hU4a)) hsym hto hxl) ?_
        rintro kv4 U4b hU4b hk4
        obtain ⟨ka4, kc4x, rfl⟩ := hk4.shape
        refine D_call rfl rfl c60 rfl ⟨⟨0, rfl⟩, ⟨1, rfl⟩, ⟨2, rfl⟩, trivial⟩ (cmpl_spec (keyL (sortR (a.rules.take i))[at_]) (keyL a.rules[i]) _ _ U4b (hk3.mono hU4b) hk4 (by rw [keyL_len]; omega) (by rw [keyL_len]; omega)) ?_
        rintro _ U4c hU4c rfl
        have hUcy := hU4a.trans (hU4b.trans hU4c)
        refine D_val rfl rfl rfl (R_cmp rfl rfl rfl) ?_
        refine D_val rfl rfl rfl (R_pickT rfl rfl) ?_
        refine D_done ?_
        refine Q_then ?_
        refine K_if rfl (fun h62 => ?_) (fun h62 => ?_)
        ·
          have hU2 := hVU.trans hUcy
          have hins : insR a.rules[i] (sortR (a.rules.take i)) = (sortR (a.rules.take i)) := by rw [insR_at hat hlt hstop, if_pos ⟨hat4, h62⟩]
          refine K_exit ?_
          refine Q_then_exit ?_
          refine Q_block_exit ?_
          refine Q_then ?_
          refine K_region ?_
          refine KV (R_move rfl) rfl ?_
          refine KV (R_add rfl rfl (by omega)) rfl ?_
          refine KV (R_assign rfl) rfl ?_
          refine K_nil ?_
          refine Q_nextD (i + 1, _, _, oc, cells) ⟨hi', hV.trans hU2, by rw [sortR_take hi', hins]; exact hS.mono hU2, by rw [sortR_take hi', hins]; exact hC.imp fun _ _ h => h.mono hU2, by rw [sortR_take hi', hins]; exact hoc⟩ (by (try dsimp only); omega) ⟨rfl, trivial⟩ rfl (by dsimp only; rw [sortR_take hi', hins]) rfl
        ·
          have hU2 := hVU.trans hUcy
          have hins : insR a.rules[i] (sortR (a.rules.take i)) = (sortR (a.rules.take i)).take at_ ++ a.rules[i] :: (sortR (a.rules.take i)).drop at_ := by rw [insR_at hat hlt hstop, if_neg (by rintro ⟨_, h⟩; exact h62 h)]
          refine K_skip ?_
          refine Q_then ?_
          refine K_regionD (fin := true) (R := [1, 2, 3, 4, 6, 7, 8, 9, 10, 13, 14, 15, 16, 0, 5, 11, 12, 17, 18, 19]) (by kernel_rfl) mixed (.cons_cons _ (.cons_cons _ (.cons_cons _ (List.nil_sublist _)))) ?_
          refine D_val rfl rfl rfl (R_fieldAddr 2 fd42_2 rfl) ?_
          refine D_val rfl rfl rfl (R_loadO ty40 0 rfl rfl rfl rfl (fun _ => rfl) rfl) ?_
          refine D_val rfl rfl rfl (R_move rfl) ?_
          refine D_val rfl rfl rfl (R_sliceHi sl40 ty100 rfl rfl (Nat.le_trans hat hoc)) ?_
          refine D_val rfl rfl rfl (R_fieldAddr 2 fd42_2 rfl) ?_
          refine D_val rfl rfl rfl (R_loadO ty40 2 rfl rfl rfl rfl (fun _ => rfl) rfl) ?_
          refine D_val rfl rfl rfl (R_move rfl) ?_
          refine D_val rfl rfl rfl (R_indexN sl40 ty100 rfl rfl (by omega)) ?_
          refine D_val rfl rfl rfl (R_loadH ty100 rfl (hrc.mono hU2) rfl (fun e => by cases e) rfl) ?_
          refine D_val rfl rfl rfl (R_fieldAddr 2 fd42_2 rfl) ?_
          refine D_val rfl rfl rfl (R_loadO ty40 0 rfl rfl rfl rfl (fun _ => rfl) rfl) ?_
          refine D_val rfl rfl rfl (R_move rfl) ?_
          refine D_val rfl rfl rfl (R_sliceLo sl40 ty100 rfl rfl hat) ?_
          refine D_alloc rfl rfl rfl (A_buildSlice (vs := []) sl40 ty100 z100 rfl rfl (by simp) (by simp) rfl (by decide)) fun b63 => ?_
          have hcl3 : (cells.take (at_ * 3)).length = at_ * 3 := by rw [List.length_take, hcl]; omega
          refine D_append0 0 ap40 sl40 rfl rfl rfl rfl rfl ⟨⟨0, rfl⟩, ⟨1, rfl⟩, ⟨2, rfl⟩, trivial⟩ ((hS.mono hU2).hi hat hoc) hcl3 ((hC.take at_).oneCell fun _ _ h => h.one) ⟨by omega, by omega⟩ fun a68 k68 => ?_

          refine D_alloc rfl rfl rfl (A_buildSlice (vs := [.agg #[.int .i64 a.rules[i].sym, .slice xa a.rules[i].args.length xcp, .int .i64 a.rules[i].to]]) sl40 ty100 z100 rfl rfl (by simp [Value.cells]) (by simp) rfl (by decide)) fun b74 => ?_
          refine D_append1 0 ap40 rfl rfl rfl rfl rfl rfl ⟨⟨0, rfl⟩, ⟨1, rfl⟩, ⟨2, rfl⟩, trivial⟩ rfl rfl ⟨by omega, by omega⟩ fun a75 k75 hn75 => ?_
          have hcl4 : (cells.drop (at_ * 3)).length = ((sortR (a.rules.take i)).length - at_) * 3 := by rw [List.length_drop, hcl, Nat.sub_mul]
          refine D_appendS 0 ap40 sl40 rfl rfl rfl rfl rfl ⟨⟨0, rfl⟩, ⟨1, rfl⟩, ⟨2, rfl⟩, trivial⟩ ((hS.mono hU2).lo hcl hat hoc) hcl4 ((hC.drop at_).oneCell fun _ _ h => h.one) ⟨by omega, by omega⟩ fun a80 k80 => ?_

          refine D_val rfl rfl rfl (R_fieldAddr 2 fd42_2 rfl) ?_
          refine D_lastStore ty40 1 rfl rfl rfl rfl rfl rfl rfl rfl ?_
          refine KQ_front 0 rfl ?_
          refine KQ_pubrowC rfl fun Hp hp hrow hzc => ?_
          obtain ⟨za, zc, hze, hzc⟩ := hzc
          cases hze
          have hnl : ((sortR (a.rules.take i)).take at_ ++ a.rules[i] :: (sortR (a.rules.take i)).drop at_).length = at_ + 1 + ((sortR (a.rules.take i)).length - at_) := by simp only [List.length_append, List.length_cons, List.length_take, List.length_drop]; omega
          have hcat : (sortR (a.rules.take i)).take at_ ++ a.rules[i] :: (sortR (a.rules.take i)).drop at_ = ((sortR (a.rules.take i)).take at_ ++ [a.rules[i]]) ++ (sortR (a.rules.take i)).drop at_ := by simp
          refine Q_block ?_
          refine Q_then ?_
          refine K_region ?_
          refine KV (R_move rfl) rfl ?_
          refine KV (R_add rfl rfl (by omega)) rfl ?_
          refine KV (R_assign rfl) rfl ?_
          refine K_nil ?_
          refine Q_nextD (i + 1, Hp, a80, k80, (cells.take (at_ * 3) ++ [.int .i64 a.rules[i].sym, .slice xa a.rules[i].args.length xcp, .int .i64 a.rules[i].to]) ++ cells.drop (at_ * 3)) ⟨hi', hV.trans (hU2.trans hp), by rw [sortR_take hi', hins, hnl]; exact hrow.sl, by rw [sortR_take hi', hins, hcat]; exact (((hC.take at_).imp fun _ _ h => h.mono (hU2.trans hp)).snoc ((RepR.of_rule hsr hsym hto hxl).mono (hU2.trans hp)) rfl).append ((hC.drop at_).imp fun _ _ h => h.mono (hU2.trans hp)), by rw [sortR_take hi', hins, hnl]; exact hzc⟩ (by (try dsimp only); omega) ⟨rfl, trivial⟩ rfl (by dsimp only; rw [sortR_take hi', hins, hnl]; rfl) rfl
      ·
        intro h47
        have hU2 := hVU
        have hins : insR a.rules[i] (sortR (a.rules.take i)) = (sortR (a.rules.take i)).take at_ ++ a.rules[i] :: (sortR (a.rules.take i)).drop at_ := by rw [insR_at hat hlt hstop, if_neg (by rintro ⟨h, _⟩; omega)]
        refine D_skip rfl rfl ?_
        refine D_skip rfl rfl ?_
        refine D_skip rfl rfl ?_
        refine D_skip rfl rfl ?_
        refine D_skip rfl rfl ?_
        refine D_skip rfl rfl ?_
        refine D_skip rfl rfl ?_
        refine D_skip rfl rfl ?_
        refine D_skip rfl rfl ?_
        refine D_skip rfl rfl ?_
        refine D_skip rfl rfl ?_
        refine D_skip rfl rfl ?_
        refine D_skip rfl rfl ?_
        refine D_skip rfl rfl ?_
        refine D_val rfl rfl rfl (R_pickF rfl rfl) ?_
        refine D_done ?_
        refine Q_then ?_
        refine K_ifF rfl ?_
        refine K_skip ?_
        refine Q_then ?_
        refine K_regionD (fin := true) (R := [1, 2, 3, 4, 6, 7, 8, 9, 10, 13, 14, 15, 16, 0, 5, 11, 12, 17, 18, 19]) (by kernel_rfl) mixed (.cons_cons _ (.cons_cons _ (.cons_cons _ (List.nil_sublist _)))) ?_
        refine D_val rfl rfl rfl (R_fieldAddr 2 fd42_2 rfl) ?_
        refine D_val rfl rfl rfl (R_loadO ty40 0 rfl rfl rfl rfl (fun _ => rfl) rfl) ?_
        refine D_val rfl rfl rfl (R_move rfl) ?_
        refine D_val rfl rfl rfl (R_sliceHi sl40 ty100 rfl rfl (Nat.le_trans hat hoc)) ?_
        refine D_val rfl rfl rfl (R_fieldAddr 2 fd42_2 rfl) ?_
        refine D_val rfl rfl rfl (R_loadO ty40 2 rfl rfl rfl rfl (fun _ => rfl) rfl) ?_
        refine D_val rfl rfl rfl (R_move rfl) ?_
        refine D_val rfl rfl rfl (R_indexN sl40 ty100 rfl rfl (by omega)) ?_
        refine D_val rfl rfl rfl (R_loadH ty100 rfl (hrc.mono hU2) rfl (fun e => by cases e) rfl) ?_
        refine D_val rfl rfl rfl (R_fieldAddr 2 fd42_2 rfl) ?_
        refine D_val rfl rfl rfl (R_loadO ty40 0 rfl rfl rfl rfl (fun _ => rfl) rfl) ?_
        refine D_val rfl rfl rfl (R_move rfl) ?_
        refine D_val rfl rfl rfl (R_sliceLo sl40 ty100 rfl rfl hat) ?_
        refine D_alloc rfl rfl rfl (A_buildSlice (vs := []) sl40 ty100 z100 rfl rfl (by simp) (by simp) rfl (by decide)) fun b63 => ?_
        have hcl3 : (cells.take (at_ * 3)).length = at_ * 3 := by rw [List.length_take, hcl]; omega
        refine D_append0 0 ap40 sl40 rfl rfl rfl rfl rfl ⟨⟨0, rfl⟩, ⟨1, rfl⟩, ⟨2, rfl⟩, trivial⟩ ((hS.mono hU2).hi hat hoc) hcl3 ((hC.take at_).oneCell fun _ _ h => h.one) ⟨by omega, by omega⟩ fun a68 k68 => ?_

        refine D_alloc rfl rfl rfl (A_buildSlice (vs := [.agg #[.int .i64 a.rules[i].sym, .slice xa a.rules[i].args.length xcp, .int .i64 a.rules[i].to]]) sl40 ty100 z100 rfl rfl (by simp [Value.cells]) (by simp) rfl (by decide)) fun b74 => ?_
        refine D_append1 0 ap40 rfl rfl rfl rfl rfl rfl ⟨⟨0, rfl⟩, ⟨1, rfl⟩, ⟨2, rfl⟩, trivial⟩ rfl rfl ⟨by omega, by omega⟩ fun a75 k75 hn75 => ?_
        have hcl4 : (cells.drop (at_ * 3)).length = ((sortR (a.rules.take i)).length - at_) * 3 := by rw [List.length_drop, hcl, Nat.sub_mul]
        refine D_appendS 0 ap40 sl40 rfl rfl rfl rfl rfl ⟨⟨0, rfl⟩, ⟨1, rfl⟩, ⟨2, rfl⟩, trivial⟩ ((hS.mono hU2).lo hcl hat hoc) hcl4 ((hC.drop at_).oneCell fun _ _ h => h.one) ⟨by omega, by omega⟩ fun a80 k80 => ?_

        refine D_val rfl rfl rfl (R_fieldAddr 2 fd42_2 rfl) ?_
        refine D_lastStore ty40 1 rfl rfl rfl rfl rfl rfl rfl rfl ?_
        refine KQ_front 0 rfl ?_
        refine KQ_pubrowC rfl fun Hp hp hrow hzc => ?_
        obtain ⟨za, zc, hze, hzc⟩ := hzc
        cases hze
        have hnl : ((sortR (a.rules.take i)).take at_ ++ a.rules[i] :: (sortR (a.rules.take i)).drop at_).length = at_ + 1 + ((sortR (a.rules.take i)).length - at_) := by simp only [List.length_append, List.length_cons, List.length_take, List.length_drop]; omega
        have hcat : (sortR (a.rules.take i)).take at_ ++ a.rules[i] :: (sortR (a.rules.take i)).drop at_ = ((sortR (a.rules.take i)).take at_ ++ [a.rules[i]]) ++ (sortR (a.rules.take i)).drop at_ := by simp
        refine Q_block ?_
        refine Q_then ?_
        refine K_region ?_
        refine KV (R_move rfl) rfl ?_
        refine KV (R_add rfl rfl (by omega)) rfl ?_
        refine KV (R_assign rfl) rfl ?_
        refine K_nil ?_
        refine Q_nextD (i + 1, Hp, a80, k80, (cells.take (at_ * 3) ++ [.int .i64 a.rules[i].sym, .slice xa a.rules[i].args.length xcp, .int .i64 a.rules[i].to]) ++ cells.drop (at_ * 3)) ⟨hi', hV.trans (hU2.trans hp), by rw [sortR_take hi', hins, hnl]; exact hrow.sl, by rw [sortR_take hi', hins, hcat]; exact (((hC.take at_).imp fun _ _ h => h.mono (hU2.trans hp)).snoc ((RepR.of_rule hsr hsym hto hxl).mono (hU2.trans hp)) rfl).append ((hC.drop at_).imp fun _ _ h => h.mono (hU2.trans hp)), by rw [sortR_take hi', hins, hnl]; exact hzc⟩ (by (try dsimp only); omega) ⟨rfl, trivial⟩ rfl (by dsimp only; rw [sortR_take hi', hins, hnl]; rfl) rfl
  ·
    have hi' : i = a.rules.length := by omega
    subst hi'
    have ht0 : a.rules.take a.rules.length = a.rules := List.take_length
    rw [ht0] at hS hC hoc hln hcl ⊢
    obtain ⟨V0, hV0e⟩ : ∃ V0, V0 = V := ⟨_, rfl⟩
    subst hV0e
    have hV0 := hV
    refine K_exit ?_
    refine Q_then_exit ?_
    refine Q_then_exit ?_
    refine Q_block_exit ?_
    refine Q_then ?_
    refine K_seq ?_
    refine K_seq ?_
    refine K_region ?_
    refine KV (R_assign rfl) rfl ?_
    refine K_nil ?_
    refine Q_then ?_
    refine K_block ?_
    refine K_nilrow T3 1 ?_
    refine K_loopD (G := Nat × View × Value) [6, 82, 83, 84, 85, 86, 87, 88, 89, 90, 91, 92, 93, 94, 95, 96, 97] (fun g => [(6, .int .i64 (g.1 : Int))]) (fun hl g => ((hl.set 0 (row g.2.2 T3 1 (subL g.1 fun z => decide ((z : Int) ∈ a.final)).length (ints (subL g.1 fun z => decide ((z : Int) ∈ a.final))))).set 1 (blk b3 (.cells #[.slice ra a.ranks.length rcp, .int .i64 a.states, .slice oa (sortR a.rules).length oc, g.2.2] T42 (0, 0))))) (fun g => g.2.1) (fun g => (g.1 ≤ a.states.toNat) ∧ (VLe V0 g.2.1) ∧ (∃ ad cp, g.2.2 = .slice ad (subL g.1 fun z => decide ((z : Int) ∈ a.final)).length cp)) (fun g => a.states.toNat - g.1) (0, V0, nilS) ⟨Nat.zero_le _, VLe.refl _, none, 0, rfl⟩ ⟨rfl, trivial⟩ (by simp only [args0, Nat.reduceAdd, del, memN, beqN, Nat.reduceBEq, cond_true, cond_false]; rfl) rfl rfl ?_
    rintro ⟨s, V, w⟩ ⟨hs, hV2, hw⟩
    dsimp only at hs hV2 hw
    dsimp only [List.set, List.cons_append, List.nil_append]
    obtain ⟨wa, wcp, rfl⟩ := hw
    have hnl := subL_len s fun z => decide ((z : Int) ∈ a.final)
    refine K_seq ?_
    refine K_seq ?_
    refine K_region ?_
    refine KV (R_move rfl) rfl ?_
    refine KV (R_fieldAddr 1 fd42_1 rfl) rfl ?_
    refine KV (R_loadO ty3 3 rfl rfl rfl rfl (fun _ => rfl) rfl) rfl ?_
    refine KV (R_cmp rfl rfl rfl) rfl ?_
    refine K_nil ?_
    refine Q_then ?_
    refine K_if rfl (fun h85 => ?_) (fun h85 => ?_)
    ·
      have hs' : s < a.states.toNat := by omega
      refine K_skip ?_
      refine Q_then ?_
      refine K_seq ?_
      refine K_block ?_
      refine K_seq ?_
      refine K_region ?_
      refine KV (R_fieldAddr 3 fd42_3 rfl) rfl ?_
      refine KV (R_loadO ty25 3 rfl rfl rfl rfl (fun _ => rfl) rfl) rfl ?_
      refine KV (R_move rfl) rfl ?_
      refine K_call c62 rfl rfl (rhas_spec (s : Int) a.final _ V ((ha.mono (hV0.trans hV2)).f) hfl) ?_
      rintro _ U hU rfl
      refine K_nil ?_
      refine Q_then ?_
      refine K_if rfl (fun h91 => ?_) (fun h91 => ?_)
      ·
        refine K_region ?_
        refine KV (R_fieldAddr 3 fd42_3 rfl) rfl ?_
        refine KV (R_loadO ty25 1 rfl rfl rfl rfl (fun _ => rfl) rfl) rfl ?_
        refine KV (R_move rfl) rfl ?_
        refine KA (A_buildSlice (vs := [.int .i64 (s : Int)]) sl25 ty3 z3 rfl rfl (by simp [Value.cells]) (by simp) rfl (by decide)) rfl fun b95 => ?_
        refine K_append1 0 ap25 rfl rfl rfl rfl rfl rfl ⟨by omega, by omega⟩ rfl fun a96 k96 hn96 => ?_
        refine KV (R_fieldAddr 3 fd42_3 rfl) rfl ?_
        refine K_store ty25 1 rfl rfl rfl rfl rfl rfl ?_
        refine K_nil ?_
        refine Q_block ?_
        refine Q_then ?_
        refine K_region ?_
        refine KV (R_move rfl) rfl ?_
        refine KV (R_add rfl rfl (by omega)) rfl ?_
        refine KV (R_assign rfl) rfl ?_
        refine K_nil ?_
        refine Q_nextD (s + 1, U, .slice a96 ((subL s fun z => decide ((z : Int) ∈ a.final)).length + 1) k96) ⟨hs', hV2.trans hU, _, _, by rw [subL_yes (p := fun (z : Nat) => decide ((z : Int) ∈ a.final)) (decide_eq_true h91), List.length_append]; rfl⟩ (by (try dsimp only); omega) ⟨rfl, trivial⟩ rfl (by dsimp only; rw [subL_yes (p := fun (z : Nat) => decide ((z : Int) ∈ a.final)) (decide_eq_true h91), List.length_append, ints_snoc]; rfl) rfl
      ·
        refine K_skip ?_
        refine Q_block ?_
        refine Q_then ?_
        refine K_region ?_
        refine KV (R_move rfl) rfl ?_
        refine KV (R_add rfl rfl (by omega)) rfl ?_
        refine KV (R_assign rfl) rfl ?_
        refine K_nil ?_
        refine Q_nextD (s + 1, U, .slice wa (subL s fun z => decide ((z : Int) ∈ a.final)).length wcp) ⟨hs', hV2.trans hU, _, _, by rw [subL_no (p := fun (z : Nat) => decide ((z : Int) ∈ a.final)) (decide_eq_false h91)]⟩ (by (try dsimp only); omega) ⟨rfl, trivial⟩ rfl (by dsimp only; rw [subL_no (p := fun (z : Nat) => decide ((z : Int) ∈ a.final)) (decide_eq_false h91)]) rfl
    ·
      have hs' : s = a.states.toNat := by omega
      refine K_exit ?_
      refine Q_then_exit ?_
      refine Q_then_exit ?_
      refine Q_block_exit ?_
      refine Q_then ?_
      refine K_seq ?_
      refine K_region ?_
      refine KV (R_loadO ty42 1 rfl rfl rfl rfl (fun e => by cases e) rfl) rfl ?_
      refine K_store ty42 2 rfl rfl rfl rfl rfl rfl ?_
      refine K_nil ?_
      refine Q_then ?_
      refine K_ret ?_
      subst hs'
      refine KQ_pubrow rfl fun Hp hp hrow => ?_
      refine results_gen (rs := [.cell 2 42]) (vs := [_]) rfl ⟨⟨_, _, _, _, _, _, 1, rfl, rfl, ty42, (fun e => by cases e), rfl, rfl⟩, trivial⟩ ?_
      refine ⟨_, _, _, rfl, ha.r.mono (hV0.trans (hV2.trans hp)), ⟨cells, hS.mono (hV2.trans hp), hC.imp fun _ _ h => h.mono (hV2.trans hp)⟩, ⟨hrow.sl, ?_⟩, ha.s, hrl, Nat.le_trans (sortR_len _) hul, Nat.le_trans (subL_len _ _) (by omega)⟩
      intro x hx
      obtain ⟨y, hy, rfl⟩ := List.mem_map.1 hx
      have := List.mem_range.1 (List.mem_filter.1 hy).1
      simp only [i64ok]; omega
end Go.Proofs.X

namespace Go.Proofs.X
open Go Pal Go.Proofs
attribute [local irreducible] Pal.KO Pal.KC Pal.KQ Pal.KD
theorem c67 : callable Tryd.prog F67 = true := by kernel_rfl
theorem c68 : callable Tryd.prog F68 = true := by kernel_rfl
theorem rsame_au_spec (a b : Au) (v1 v2 v3 w1 w2 w3 : Value) (H : View) (ha : RepAu H a v1 v2 v3) (hb : RepAu H b w1 w2 w3) (hsa : a.rules.length ≤ 1048576) (hta : a.states ≤ 1048576) (hra : ∀ r ∈ a.rules, r.args.length ≤ 1048576) (hsb : b.rules.length ≤ 1048576) (htb : b.states ≤ 1048576) (hrb : ∀ r ∈ b.rules, r.args.length ≤ 1048576) (hal : a.ranks.length ≤ 1048576) (hbl : b.ranks.length ≤ 1048576) :
    Sat Tryd.prog F30 #[.agg #[v1, .int .i64 a.states, v2, v3], .agg #[w1, .int .i64 b.states, w2, w3]] H (fun r _ => r = .bool (sameM a b)) := by
  have hafl := ha.fl
  have hbfl := hb.fl
  obtain ⟨ara, arcp, rfl⟩ := ha.r.shape
  obtain ⟨afa, afcp, rfl⟩ := ha.f.shape
  obtain ⟨aua, aucp, rfl⟩ := ha.ushape
  obtain ⟨bra, brcp, rfl⟩ := hb.r.shape
  obtain ⟨bfa, bfcp, rfl⟩ := hb.f.shape
  obtain ⟨bua, bucp, rfl⟩ := hb.ushape
  have hal2 := sortR_len a.rules
  have hbl2 := sortR_len b.rules
  have hal3 : (sortedM a).rules.length ≤ 1048576 := Nat.le_trans hal2 hsa
  have hbl3 : (sortedM b).rules.length ≤ 1048576 := Nat.le_trans hbl2 hsb
  have hne : ∀ {x : Bool}, (sameM a b = true → False) → x = false → x = sameM a b := fun h hx => by rw [hx]; exact (Bool.eq_false_iff.2 h).symm
  refine enterO (n := 69) (args := [.agg #[.slice ara a.ranks.length arcp, .int .i64 a.states, .slice aua a.rules.length aucp, .slice afa a.final.length afcp], .agg #[.slice bra b.ranks.length brcp, .int .i64 b.states, .slice bua b.rules.length bucp, .slice bfa b.final.length bfcp]]) Tryd.func30 rfl rfl rfl fun w0 => ?_
  refine K_seq ?_
  refine K_region ?_
  refine KA (A_box rfl) rfl fun b2 => ?_
  refine KA (A_box rfl) rfl fun b3 => ?_
  refine KV (R_assign rfl) rfl ?_
  refine K_nil ?_
  refine Q_then ?_
  refine K_seq ?_
  refine K_seq ?_
  refine K_region ?_
  refine KV (R_fieldAddr 1 fd42_1 rfl) rfl ?_
  refine KV (R_loadO ty3 1 rfl rfl rfl rfl (fun _ => rfl) rfl) rfl ?_
  refine KV (R_fieldAddr 1 fd42_1 rfl) rfl ?_
  refine KV (R_loadO ty3 0 rfl rfl rfl rfl (fun _ => rfl) rfl) rfl ?_
  refine KV (R_cmp rfl rfl rfl) rfl ?_
  refine KV (R_move rfl) rfl ?_
  refine K_split ?_ ?_
  ·
    intro h13
    refine K_gno rfl rfl rfl rfl ?_
    refine K_gno rfl rfl rfl rfl ?_
    refine K_gno rfl rfl rfl rfl ?_
    refine K_gno rfl rfl rfl rfl ?_
    refine K_gno rfl rfl rfl rfl ?_
    refine K_gno rfl rfl rfl rfl ?_
    refine KV (R_pickT rfl rfl) rfl ?_
    refine K_nil ?_
    refine Q_then ?_
    refine K_ifT rfl ?_
    refine K_seq ?_
    refine K_region ?_
    refine KV (R_assign rfl) rfl ?_
    refine K_nil ?_
    refine Q_then ?_
    refine K_ret ?_
    refine Q_then_ret ?_
    refine results_gen (rs := [.tmp 4]) (vs := [_]) rfl ⟨rfl, trivial⟩ ?_
    refine congrArg Value.bool (hne (fun h => ?_) rfl)
    simp only [sameM, decide_eq_true_eq] at h
    obtain ⟨g1, g2, g3, g4, g5⟩ := h
    exact absurd g1 h13
  ·
    intro h13
    refine K_gyes rfl rfl ?_
    refine KV (R_fieldAddr 0 fd42_0 rfl) rfl ?_
    refine K_gyes rfl rfl ?_
    refine KV (R_loadO ty25 1 rfl rfl rfl rfl (fun _ => rfl) rfl) rfl ?_
    refine K_gyes rfl rfl ?_
    refine KV (R_fieldAddr 0 fd42_0 rfl) rfl ?_
    refine K_gyes rfl rfl ?_
    refine KV (R_loadO ty25 0 rfl rfl rfl rfl (fun _ => rfl) rfl) rfl ?_
    refine K_gyes rfl rfl ?_
    refine K_call c60 rfl rfl (cmpl_spec a.ranks b.ranks _ _ H ha.r hb.r (by omega) (by omega)) ?_
    rintro _ V1 hv1 rfl
    refine K_gyes rfl rfl ?_
    refine KV (R_cmp rfl rfl rfl) rfl ?_
    refine KV (R_pickF rfl rfl) rfl ?_
    refine K_nil ?_
    refine Q_then ?_
    refine K_if rfl (fun h20 => ?_) (fun h20 => ?_)
    ·
      refine K_seq ?_
      refine K_region ?_
      refine KV (R_assign rfl) rfl ?_
      refine K_nil ?_
      refine Q_then ?_
      refine K_ret ?_
      refine Q_then_ret ?_
      refine results_gen (rs := [.tmp 4]) (vs := [_]) rfl ⟨rfl, trivial⟩ ?_
      refine congrArg Value.bool (hne (fun h => ?_) rfl)
      simp only [sameM, decide_eq_true_eq] at h
      obtain ⟨g1, g2, g3, g4, g5⟩ := h
      exact h20 (cmpL_eq.2 g2)
    ·
      have hst : a.states = b.states := Decidable.not_not.1 h13
      have hrr : a.ranks = b.ranks := cmpL_eq.1 (Decidable.not_not.1 h20)
      refine K_skip ?_
      refine Q_then ?_
      refine K_seq ?_
      refine K_regionD (fin := true) (R := [0, 2, 1, 3, 4, 5, 6, 7]) (by kernel_rfl) mixed (.cons_cons _ (.cons_cons _ (List.nil_sublist _))) ?_
      refine D_val rfl rfl rfl (R_loadO ty42 1 rfl rfl rfl rfl (fun e => by cases e) rfl) ?_
      refine D_val rfl rfl rfl (R_loadO ty42 0 rfl rfl rfl rfl (fun e => by cases e) rfl) ?_
      refine D_call rfl rfl c67 rfl ⟨⟨0, rfl⟩, ⟨1, rfl⟩, trivial⟩ (rsorted_spec a _ _ _ V1 (ha.mono hv1) hsa hta hra) ?_
      rintro _ V2 hv2 ⟨p1, p2, p3, rfl, hpa⟩
      obtain ⟨pra, prcp, rfl⟩ := hpa.r.shape
      obtain ⟨pfa, pfcp, rfl⟩ := hpa.f.shape
      obtain ⟨pua, pucp, rfl⟩ := hpa.ushape
      refine D_call rfl rfl c67 rfl ⟨⟨0, rfl⟩, ⟨1, rfl⟩, trivial⟩ (rsorted_spec b _ _ _ V2 (hb.mono (hv1.trans hv2)) hsb htb hrb) ?_
      rintro _ V3 hv3 ⟨q1, q2, q3, rfl, hqa⟩
      obtain ⟨qra, qrcp, rfl⟩ := hqa.r.shape
      obtain ⟨qfa, qfcp, rfl⟩ := hqa.f.shape
      obtain ⟨qua, qucp, rfl⟩ := hqa.ushape
      have ha3 := ha.mono (hv1.trans (hv2.trans hv3))
      have hb3 := hb.mono (hv1.trans (hv2.trans hv3))
      have hpa3 := hpa.mono hv3
      have hpl : (sortedM a).rules = sortR a.rules := rfl
      have hql : (sortedM b).rules = sortR b.rules := rfl
      refine D_alloc rfl rfl rfl (A_alloc z42) fun b5 => ?_
      refine D_alloc rfl rfl rfl (A_alloc z42) fun b6 => ?_
      refine D_store ty42 1 rfl rfl rfl rfl rfl ⟨⟨1, rfl⟩, ⟨2, rfl⟩, trivial⟩ rfl rfl rfl ?_
      refine D_lastStore ty42 1 rfl rfl rfl rfl rfl rfl rfl rfl ?_
      refine Q_then ?_
      refine K_seq ?_
      refine K_seq ?_
      refine K_region ?_
      refine KV (R_fieldAddr 2 fd42_2 rfl) rfl ?_
      refine KV (R_loadO ty40 0 rfl rfl rfl rfl (fun _ => rfl) rfl) rfl ?_
      refine KV (R_len sl40 rfl) rfl ?_
      refine KV (R_fieldAddr 2 fd42_2 rfl) rfl ?_
      refine KV (R_loadO ty40 1 rfl rfl rfl rfl (fun _ => rfl) rfl) rfl ?_
      refine KV (R_len sl40 rfl) rfl ?_
      refine KV (R_cmp rfl rfl rfl) rfl ?_
      refine KV (R_move rfl) rfl ?_
      refine K_split ?_ ?_
      ·
        intro h32
        refine K_gno rfl rfl rfl rfl ?_
        refine K_gno rfl rfl rfl rfl ?_
        refine K_gno rfl rfl rfl rfl ?_
        refine K_gno rfl rfl rfl rfl ?_
        refine K_gno rfl rfl rfl rfl ?_
        refine K_gno rfl rfl rfl rfl ?_
        refine KV (R_pickT rfl rfl) rfl ?_
        refine KV (R_move rfl) rfl ?_
        refine K_gno rfl rfl rfl rfl ?_
        refine K_gno rfl rfl rfl rfl ?_
        refine K_gno rfl rfl rfl rfl ?_
        refine K_gno rfl rfl rfl rfl ?_
        refine K_gno rfl rfl rfl rfl ?_
        refine K_gno rfl rfl rfl rfl ?_
        refine KV (R_pickT rfl rfl) rfl ?_
        refine K_nil ?_
        refine Q_then ?_
        refine K_ifT rfl ?_
        refine K_seq ?_
        refine K_region ?_
        refine KV (R_assign rfl) rfl ?_
        refine K_nil ?_
        refine Q_then ?_
        refine K_ret ?_
        refine Q_then_ret ?_
        refine results_gen (rs := [.tmp 4]) (vs := [_]) rfl ⟨rfl, trivial⟩ ?_
        refine congrArg Value.bool (hne (fun h => ?_) rfl)
        simp only [sameM, decide_eq_true_eq] at h
        obtain ⟨g1, g2, g3, g4, g5⟩ := h
        have := congrArg List.length g3; simp only [List.length_map] at this; rw [hpl, hql, this] at h32; exact absurd rfl h32
      ·
        intro h32
        refine K_gyes rfl rfl ?_
        refine KV (R_fieldAddr 3 fd42_3 rfl) rfl ?_
        refine K_gyes rfl rfl ?_
        refine KV (R_loadO ty25 3 rfl rfl rfl rfl (fun _ => rfl) rfl) rfl ?_
        refine K_gyes rfl rfl ?_
        refine KV (R_fieldAddr 3 fd42_3 rfl) rfl ?_
        refine K_gyes rfl rfl ?_
        refine KV (R_loadO ty25 2 rfl rfl rfl rfl (fun _ => rfl) rfl) rfl ?_
        refine K_gyes rfl rfl ?_
        refine K_call c68 rfl rfl (within_spec a.final b.final _ _ V3 ha3.f hb3.f hafl hbfl) ?_
        rintro _ V4 hv4 rfl
        refine K_gyes rfl rfl ?_
        refine KV (R_notP rfl) rfl ?_
        refine KV (R_pickF rfl rfl) rfl ?_
        refine KV (R_move rfl) rfl ?_
        refine K_split ?_ ?_
        ·
          intro h40
          refine K_gno rfl rfl rfl rfl ?_
          refine K_gno rfl rfl rfl rfl ?_
          refine K_gno rfl rfl rfl rfl ?_
          refine K_gno rfl rfl rfl rfl ?_
          refine K_gno rfl rfl rfl rfl ?_
          refine K_gno rfl rfl rfl rfl ?_
          refine KV (R_pickT rfl rfl) rfl ?_
          refine K_nil ?_
          refine Q_then ?_
          refine K_ifT rfl ?_
          refine K_seq ?_
          refine K_region ?_
          refine KV (R_assign rfl) rfl ?_
          refine K_nil ?_
          refine Q_then ?_
          refine K_ret ?_
          refine Q_then_ret ?_
          refine results_gen (rs := [.tmp 4]) (vs := [_]) rfl ⟨rfl, trivial⟩ ?_
          refine congrArg Value.bool (hne (fun h => ?_) rfl)
          simp only [sameM, decide_eq_true_eq] at h
          obtain ⟨g1, g2, g3, g4, g5⟩ := h
          exact absurd g4 h40
        ·
          intro h40
          refine K_gyes rfl rfl ?_
          refine KV (R_fieldAddr 3 fd42_3 rfl) rfl ?_
          refine K_gyes rfl rfl ?_
          refine KV (R_loadO ty25 2 rfl rfl rfl rfl (fun _ => rfl) rfl) rfl ?_
          refine K_gyes rfl rfl ?_
          refine KV (R_fieldAddr 3 fd42_3 rfl) rfl ?_
          refine K_gyes rfl rfl ?_
          refine KV (R_loadO ty25 3 rfl rfl rfl rfl (fun _ => rfl) rfl) rfl ?_
          refine K_gyes rfl rfl ?_
          refine K_call c68 rfl rfl (within_spec b.final a.final _ _ V4 (hb3.mono hv4).f (ha3.mono hv4).f hbfl hafl) ?_
          rintro _ V5 hv5 rfl
          refine K_gyes rfl rfl ?_
          refine KV (R_notP rfl) rfl ?_
          refine KV (R_pickF rfl rfl) rfl ?_
          refine K_nil ?_
          refine Q_then ?_
          refine K_if rfl (fun h47 => ?_) (fun h47 => ?_)
          ·
            refine K_seq ?_
            refine K_region ?_
            refine KV (R_assign rfl) rfl ?_
            refine K_nil ?_
            refine Q_then ?_
            refine K_ret ?_
            refine Q_then_ret ?_
            refine results_gen (rs := [.tmp 4]) (vs := [_]) rfl ⟨rfl, trivial⟩ ?_
            refine congrArg Value.bool (hne (fun h => ?_) rfl)
            simp only [sameM, decide_eq_true_eq] at h
            obtain ⟨g1, g2, g3, g4, g5⟩ := h
            exact absurd g5 h47
          ·
            have hle1_ : (sortedM a).rules.length = (sortedM b).rules.length := by omega
            have hf1 : ∀ x ∈ a.final, x ∈ b.final := Decidable.not_not.1 h40
            have hf2 : ∀ x ∈ b.final, x ∈ a.final := Decidable.not_not.1 h47
            refine K_skip ?_
            refine Q_then ?_
            refine K_seq ?_
            refine K_seq ?_
            refine K_region ?_
            refine KV (R_assign rfl) rfl ?_
            refine K_nil ?_
            refine Q_then ?_
            refine K_block ?_
            refine K_loopD (G := Nat × View) [4, 7, 48, 49, 50, 51, 52, 53, 54, 55, 56, 57, 58, 59, 60, 61, 62, 63, 64, 65, 66, 67, 68] (fun g => [(7, .int .i64 (g.1 : Int))]) (fun hl g => hl) (fun g => g.2) (fun g => (g.1 ≤ (sortedM a).rules.length) ∧ (VLe V3 g.2) ∧ (∀ j (h : j < (sortedM a).rules.length) (h2 : j < (sortedM b).rules.length), j < g.1 → keyL (sortedM a).rules[j] = keyL (sortedM b).rules[j])) (fun g => (sortedM a).rules.length - g.1) (0, V5) ⟨Nat.zero_le _, hv4.trans hv5, fun j _ _ h => by simp at h⟩ ⟨rfl, trivial⟩ (by simp only [args0, Nat.reduceAdd, del, memN, beqN, Nat.reduceBEq, cond_true, cond_false]; rfl) rfl rfl ?_
            rintro ⟨k, V⟩ ⟨hk, hV, hyes⟩
            dsimp only at hk hV hyes
            dsimp only [List.set, List.cons_append, List.nil_append]
            refine K_seq ?_
            refine K_seq ?_
            refine K_region ?_
            refine KV (R_move rfl) rfl ?_
            refine KV (R_fieldAddr 2 fd42_2 rfl) rfl ?_
            refine KV (R_loadO ty40 0 rfl rfl rfl rfl (fun _ => rfl) rfl) rfl ?_
            refine KV (R_len sl40 rfl) rfl ?_
            refine KV (R_cmp rfl rfl rfl) rfl ?_
            refine K_nil ?_
            refine Q_then ?_
            refine K_if rfl (fun h52 => ?_) (fun h52 => ?_)
            ·
              have hk' : k < (sortedM a).rules.length := by omega
              have hk2 : k < (sortedM b).rules.length := by omega
              obtain ⟨ub, uo, ucp2, xa, xcp, hue, hc1_, hs1, hsy1, hto1, hl1⟩ := (hpa3.mono hV).rule hk'
              cases hue
              obtain ⟨ub2, uo2, ucp3, xa2, xcp2, hue2, hc2_, hs2, hsy2, hto2, hl2⟩ := (hqa.mono hV).rule hk2
              cases hue2
              have hm1 := hra _ (sortR_mem (show (sortedM a).rules[k] ∈ sortR a.rules from List.getElem_mem hk'))
              have hm2 := hrb _ (sortR_mem (show (sortedM b).rules[k] ∈ sortR b.rules from List.getElem_mem hk2))
              refine K_skip ?_
              refine Q_then ?_
              refine K_seq ?_
              refine K_block ?_
              refine K_seq ?_
              refine K_regionD (fin := false) (R := [0, 1, 2, 3, 4, 6, 7, 8, 9, 10, 5, 11, 12, 13]) (by kernel_rfl) mixed (.cons_cons _ (.cons_cons _ (.cons_cons _ (.cons_cons _ (List.nil_sublist _))))) ?_
              refine D_val rfl rfl rfl (R_fieldAddr 2 fd42_2 rfl) ?_
              refine D_val rfl rfl rfl (R_loadO ty40 0 rfl rfl rfl rfl (fun _ => rfl) rfl) ?_
              refine D_val rfl rfl rfl (R_move rfl) ?_
              refine D_val rfl rfl rfl (R_indexN sl40 ty100 rfl rfl (by omega)) ?_
              refine D_val rfl rfl rfl (R_loadH ty100 rfl (hc1_) rfl (fun e => by cases e) rfl) ?_
              refine D_val rfl rfl rfl (R_fieldAddr 2 fd42_2 rfl) ?_
              refine D_val rfl rfl rfl (R_loadO ty40 1 rfl rfl rfl rfl (fun _ => rfl) rfl) ?_
              refine D_val rfl rfl rfl (R_move rfl) ?_
              refine D_val rfl rfl rfl (R_indexN sl40 ty100 rfl rfl (by omega)) ?_
              refine D_val rfl rfl rfl (R_loadH ty100 rfl (hc2_) rfl (fun e => by cases e) rfl) ?_
              refine D_call rfl rfl c69 rfl ⟨⟨0, rfl⟩, ⟨1, rfl⟩, ⟨2, rfl⟩, ⟨3, rfl⟩, trivial⟩ (key_spec2 (sortedM a).rules[k] _ V hs1 hsy1 hto1 hl1) ?_
              rintro kv1 U1 hU1 hk1
              obtain ⟨ka1, kc1x, rfl⟩ := hk1.shape
              refine D_call rfl rfl c69 rfl ⟨⟨0, rfl⟩, ⟨1, rfl⟩, ⟨2, rfl⟩, ⟨3, rfl⟩, trivial⟩ (key_spec2 (sortedM b).rules[k] _ U1 (hs2.mono hU1) hsy2 hto2 hl2) ?_
              rintro kv2 U2 hU2 hky2
              obtain ⟨ka2, kc2x, rfl⟩ := hky2.shape
              refine D_call rfl rfl c60 rfl ⟨⟨0, rfl⟩, ⟨1, rfl⟩, ⟨2, rfl⟩, ⟨3, rfl⟩, trivial⟩ (cmpl_spec (keyL (sortedM a).rules[k]) (keyL (sortedM b).rules[k]) _ _ U2 (hk1.mono hU2) hky2 (by rw [keyL_len]; omega) (by rw [keyL_len]; omega)) ?_
              rintro _ U3 hU3 rfl
              refine D_val rfl rfl rfl (R_cmp rfl rfl rfl) ?_
              refine D_done ?_
              refine Q_then ?_
              refine K_if rfl (fun h68 => ?_) (fun h68 => ?_)
              ·
                refine K_seq ?_
                refine K_region ?_
                refine KV (R_assign rfl) rfl ?_
                refine K_nil ?_
                refine Q_then ?_
                refine K_ret ?_
                refine Q_block_ret ?_
                refine Q_then_ret ?_
                refine Q_then_ret ?_
                refine Q_block_ret ?_
                refine Q_then_ret ?_
                refine results_gen (rs := [.tmp 4]) (vs := [_]) rfl ⟨rfl, trivial⟩ ?_
                refine congrArg Value.bool (hne (fun h => ?_) rfl)
                simp only [sameM, decide_eq_true_eq] at h
                obtain ⟨g1, g2, g3, g4, g5⟩ := h
                have h9 : ((sortedM a).rules.map keyL)[k]'(by rw [List.length_map]; exact hk') = ((sortedM b).rules.map keyL)[k]'(by rw [List.length_map]; exact hk2) := by simp only [hpl, hql, g3]
                rw [List.getElem_map, List.getElem_map] at h9; exact h68 (cmpL_eq.2 h9)
              ·
                have hyes2 : ∀ j (h : j < (sortedM a).rules.length) (h2 : j < (sortedM b).rules.length), j < k + 1 → keyL (sortedM a).rules[j] = keyL (sortedM b).rules[j] := by
                  intro j h h2 hj
                  by_cases e : j = k
                  · subst e; exact cmpL_eq.1 (Decidable.not_not.1 h68)
                  · exact hyes j h h2 (by omega)
                refine K_skip ?_
                refine Q_block ?_
                refine Q_then ?_
                refine K_region ?_
                refine KV (R_move rfl) rfl ?_
                refine KV (R_add rfl rfl (by omega)) rfl ?_
                refine KV (R_assign rfl) rfl ?_
                refine K_nil ?_
                refine Q_nextD (k + 1, U3) ⟨hk', hV.trans (hU1.trans (hU2.trans hU3)), hyes2⟩ (by (try dsimp only); omega) ⟨rfl, trivial⟩ rfl rfl rfl
            ·
              have hk' : k = (sortedM a).rules.length := by omega
              refine K_exit ?_
              refine Q_then_exit ?_
              refine Q_then_exit ?_
              refine Q_block_exit ?_
              refine Q_then ?_
              refine K_seq ?_
              refine K_region ?_
              refine KV (R_assign rfl) rfl ?_
              refine K_nil ?_
              refine Q_then ?_
              refine K_ret ?_
              refine results_gen (rs := [.tmp 4]) (vs := [_]) rfl ⟨rfl, trivial⟩ ?_
              refine congrArg Value.bool (Eq.symm ?_)
              simp only [sameM, decide_eq_true_eq]
              refine ⟨hst, hrr, ?_, hf1, hf2⟩
              refine List.ext_getElem (by rw [List.length_map, List.length_map]; exact hle1_) fun j g1 g2 => ?_
              rw [List.getElem_map, List.getElem_map]
              rw [List.length_map] at g1 g2
              exact hyes j g1 g2 (by rw [hk']; exact g1)

theorem of_spec3 (a : Au) (vr vu vf : Value) (H : View) (ha : RepAu H a vr vu vf) (hsm : a.rules.length ≤ 1048576) : Sat Tryd.prog F31 #[.agg #[vr, .int .i64 a.states, vu, vf]] H (fun r H' => ∃ v1 v2 v3, r = .agg #[v1, .int .i64 a.states, v2, v3] ∧ RepAu H' a v1 v2 v3) := by
  obtain ⟨ra, rcp, rfl⟩ := ha.r.shape
  obtain ⟨fa, fcp, rfl⟩ := ha.f.shape
  obtain ⟨ua, ucp, rfl⟩ := ha.ushape
  have hrl := ha.rl
  have hul := ha.ul
  have hfl := ha.fl
  refine enterO (n := 30) (args := [.agg #[.slice ra a.ranks.length rcp, .int .i64 a.states, .slice ua a.rules.length ucp, .slice fa a.final.length fcp]]) Tryd.func31 rfl rfl rfl fun w0 => ?_
  refine K_seq ?_
  refine K_region ?_
  refine KA (A_box rfl) rfl fun b1 => ?_
  refine KA (A_alloc z42) rfl fun b2 => ?_
  refine K_nil ?_
  refine Q_then ?_
  refine K_seq ?_
  refine K_region ?_
  refine KV (R_fieldAddr 0 fd50_0 rfl) rfl ?_
  refine KV (R_loadO ty47 1 rfl rfl rfl rfl (fun _ => rfl) rfl) rfl ?_
  refine KV (R_fieldAddr 1 fd50_1 rfl) rfl ?_
  refine KV (R_loadO ty3 1 rfl rfl rfl rfl (fun _ => rfl) rfl) rfl ?_
  refine KV (R_fieldAddr 3 fd50_3 rfl) rfl ?_
  refine KV (R_loadO ty25 1 rfl rfl rfl rfl (fun _ => rfl) rfl) rfl ?_
  refine KV (R_build z42 pl42 rfl rfl) rfl ?_
  refine KA (A_alloc z42) rfl fun b3 => ?_
  refine K_store ty42 0 rfl rfl rfl rfl rfl rfl ?_
  refine K_nil ?_
  refine Q_then ?_
  refine K_seq ?_
  refine K_seq ?_
  refine K_region ?_
  refine KV (R_assign rfl) rfl ?_
  refine K_nil ?_
  refine Q_then ?_
  refine K_block ?_
  refine K_nilrow T100 3 ?_
  refine K_loopD (G := Nat × Value × List Value) [4, 12, 13, 14, 15, 16, 17, 18, 19, 20, 21, 22, 23, 24, 25, 26, 27, 28] (fun g => [(4, .int .i64 (g.1 : Int))]) (fun hl g => ((hl.set 0 (row g.2.1 T100 3 g.1 g.2.2)).set 1 (blk b3 (.cells #[.slice ra a.ranks.length rcp, .int .i64 a.states, g.2.1, .slice fa a.final.length fcp] T42 (0, 0))))) (fun g => H) (fun g => (g.1 ≤ a.rules.length) ∧ (RepL (RepR H) 3 (a.rules.take g.1) g.2.2) ∧ (∃ ad cp, g.2.1 = .slice ad g.1 cp)) (fun g => a.rules.length - g.1) (0, nilS, []) ⟨Nat.zero_le _, .nil, none, 0, rfl⟩ ⟨rfl, trivial⟩ (by simp only [args0, Nat.reduceAdd, del, memN, beqN, Nat.reduceBEq, cond_true, cond_false]; rfl) rfl rfl ?_
  rintro ⟨k, w, cells⟩ ⟨hk, hC, hw⟩
  dsimp only at hk hC hw
  dsimp only [List.set, List.cons_append, List.nil_append]
  obtain ⟨wa, wcp, rfl⟩ := hw
  refine K_seq ?_
  refine K_seq ?_
  refine K_region ?_
  refine KV (R_move rfl) rfl ?_
  refine KV (R_fieldAddr 2 fd50_2 rfl) rfl ?_
  refine KV (R_loadO ty48 3 rfl rfl rfl rfl (fun _ => rfl) rfl) rfl ?_
  refine KV (R_len sl48 rfl) rfl ?_
  refine KV (R_cmp rfl rfl rfl) rfl ?_
  refine K_nil ?_
  refine Q_then ?_
  refine K_if rfl (fun h16 => ?_) (fun h16 => ?_)
  ·
    have hk' : k < a.rules.length := by omega
    obtain ⟨ub, uo, ucp2, xa, xcp, hue, hrc, hsr, hsym, hto, hxl⟩ := ha.rule hk'
    cases hue
    refine K_skip ?_
    refine Q_then ?_
    refine K_seq ?_
    refine K_block ?_
    refine K_regionD (fin := true) (R := [0, 1, 2, 3, 4, 5, 6, 7, 8, 9, 10]) (by kernel_rfl) mixed (.cons _ (.cons_cons _ (.cons_cons _ (.cons_cons _ (List.nil_sublist _))))) ?_
    refine D_val rfl rfl rfl (R_fieldAddr 2 fd42_2 rfl) ?_
    refine D_val rfl rfl rfl (R_loadO ty40 0 rfl rfl rfl rfl (fun _ => rfl) rfl) ?_
    refine D_val rfl rfl rfl (R_fieldAddr 2 fd50_2 rfl) ?_
    refine D_val rfl rfl rfl (R_loadO ty48 2 rfl rfl rfl rfl (fun _ => rfl) rfl) ?_
    refine D_val rfl rfl rfl (R_move rfl) ?_
    refine D_val rfl rfl rfl (R_indexN sl48 ty85 rfl rfl (by omega)) ?_
    refine D_val rfl rfl rfl (R_loadH ty85 rfl (hrc) rfl (fun e => by cases e) rfl) ?_
    refine D_alloc rfl rfl rfl (A_buildSlice (vs := [.agg #[.int .i64 a.rules[k].sym, .slice xa a.rules[k].args.length xcp, .int .i64 a.rules[k].to]]) sl40 ty100 z100 rfl rfl (by simp [Value.cells]) (by simp) rfl (by decide)) fun b26 => ?_
    refine D_append1 0 ap40 rfl rfl rfl rfl rfl rfl ⟨⟨0, rfl⟩, ⟨1, rfl⟩, ⟨2, rfl⟩, trivial⟩ rfl rfl ⟨by omega, by omega⟩ fun a27 k27 hn27 => ?_
    refine D_val rfl rfl rfl (R_fieldAddr 2 fd42_2 rfl) ?_
    refine D_lastStore ty40 1 rfl rfl rfl rfl rfl rfl rfl rfl ?_
    refine Q_block ?_
    refine Q_then ?_
    refine K_region ?_
    refine KV (R_move rfl) rfl ?_
    refine KV (R_add rfl rfl (by omega)) rfl ?_
    refine KV (R_assign rfl) rfl ?_
    refine K_nil ?_
    refine Q_nextD (k + 1, .slice a27 (k + 1) k27, cells ++ [.int .i64 a.rules[k].sym, .slice xa a.rules[k].args.length xcp, .int .i64 a.rules[k].to]) ⟨hk', by rw [List.take_succ_eq_append_getElem hk']; exact hC.snoc (RepR.of_rule hsr hsym hto hxl) rfl, _, _, rfl⟩ (by (try dsimp only); omega) ⟨rfl, trivial⟩ rfl rfl rfl
  ·
    have hk' : k = a.rules.length := by omega
    subst hk'
    rw [List.take_length] at hC
    refine K_exit ?_
    refine Q_then_exit ?_
    refine Q_then_exit ?_
    refine Q_block_exit ?_
    refine Q_then ?_
    refine K_seq ?_
    refine K_region ?_
    refine KV (R_loadO ty42 1 rfl rfl rfl rfl (fun e => by cases e) rfl) rfl ?_
    refine K_store ty42 2 rfl rfl rfl rfl rfl rfl ?_
    refine K_nil ?_
    refine Q_then ?_
    refine K_ret ?_
    refine KQ_pubrow rfl fun Hp hp hrow => ?_
    refine results_gen (rs := [.cell 2 42]) (vs := [_]) rfl ⟨⟨_, _, _, _, _, _, 1, rfl, rfl, ty42, (fun e => by cases e), rfl, rfl⟩, trivial⟩ ?_
    exact ⟨_, _, _, rfl, ha.r.mono hp, ⟨cells, hrow.sl, hC.imp fun _ _ h => h.mono hp⟩, ha.f.mono hp, ha.s, hrl, hul, hfl⟩
end Go.Proofs.X

namespace Go.Proofs.X
open Go Pal Go.Proofs
attribute [local irreducible] Pal.KO Pal.KC Pal.KQ Pal.KD
theorem ty139 : Ty Tryd.prog T139 false 1 := .of (by kernel_rfl)
theorem z139 : zeroOk Tryd.prog T139 (.nilFunc) := .of (by kernel_rfl)
theorem c111 : callable Tryd.prog F111 = true := by kernel_rfl
theorem clone25o_spec (p : HL) (xs : List Int) (v : Value) (H : View) (hrd : Rd H p v xs.length (ints xs)) (hl : xs.length ≤ 1099511627776) : SatO Tryd.prog F65 #[v] H p (fun w _ q => q = row w T3 1 xs.length (ints xs) :: p) := by
  obtain ⟨a, cp, rfl, hsh⟩ := hrd.sh
  refine enterO (n := 8) (args := [.slice a xs.length cp]) Tryd.func65 rfl rfl rfl fun w0 => ?_
  refine K_seq ?_
  refine K_region ?_
  refine KV (R_assign rfl) rfl ?_
  refine K_nil ?_
  refine Q_then ?_
  refine K_seq ?_
  refine K_seq ?_
  refine K_region ?_
  refine KV (R_move rfl) rfl ?_
  refine KV (R_sliceNil sl25 rfl rfl) rfl ?_
  refine K_nil ?_
  refine Q_then ?_
  cases a with
  | none =>
    have hx0 : xs = [] := by
      rcases hsh with h3 | ⟨b, off, h3⟩
      · exact List.eq_nil_of_length_eq_zero h3
      · cases h3
    subst hx0
    refine K_ifT rfl ?_
    refine K_seq ?_
    refine K_region ?_
    refine KV (R_assign rfl) rfl ?_
    refine K_nil ?_
    refine Q_then ?_
    refine K_ret ?_
    refine Q_then_ret ?_
    refine KQ_nilrow T3 1 ?_
    refine results_gen (rs := [.tmp 2]) (vs := [_]) rfl ⟨rfl, trivial⟩ ?_
    rfl
  | some aa =>
    refine K_ifF rfl ?_
    refine K_skip ?_
    refine Q_then ?_
    refine K_seq ?_
    refine K_region ?_
    refine KA (A_buildSlice (vs := []) sl25 ty3 z3 rfl rfl (by simp) (by simp) rfl (by decide)) rfl fun b5 => ?_
    refine KV (R_move rfl) rfl ?_
    refine K_appendRd0 (p := p) (r := []) ap25 sl25 rfl rfl (by rw [List.append_nil]; exact List.Perm.refl _) hrd (by simp [ints]) (ints_one _) ⟨by omega, by omega⟩ rfl fun a7 k7 => ?_
    refine KV (R_assign rfl) rfl ?_
    refine K_nil ?_
    refine Q_then ?_
    refine K_ret ?_
    refine results_gen (rs := [.tmp 2]) (vs := [_]) rfl ⟨rfl, trivial⟩ ?_
    rw [List.append_nil]; rfl

theorem listv_spec (n gf : Nat) (cap : List Value) (src : List Int) (sv : Value) (T : List (List Int)) (E : List (List Int) → View → HL → Prop) (H0 : View) (hV0 : VisitL Tryd.prog gf cap H0 src T E) (hcal : callable Tryd.prog gf = true) (hk : src.length ≤ 1048576) (hn : n ≤ 1048576)
    (hso : ∀ x ∈ src, i64ok x) (b1 b2 b3 b4 : Nat) : ∀ m is pre a len cp H p, is.length = len → VLe H0 H → len + m = n → SI H (.slice a len cp) (pickD src is) → E pre H p → (pre ++ ext src.length m is) <+: T →
    At H b1 0 [.int .i64 (n : Int)] → At H b2 0 [.func (.func gf) #[] cap.toArray] → At H b3 0 [sv] → SI H sv src → At H b4 0 [.func (.func F111) #[] #[ptr b1, ptr b2, ptr b3, ptr b4]] →
    SatO Tryd.prog F111 #[.slice a len cp, ptr b1, ptr b2, ptr b3, ptr b4] H p (fun v V' q => v = .tuple #[] ∧ E (pre ++ ext src.length m is) V' q) := by
  intro m
  induction m using Nat.strongRecOn with | _ m ih =>
  intro is pre a len cp H p hlen h0 hm hs hE hpf h1 h2 h3 hsrc h4
  obtain ⟨sa, scp, rfl⟩ := hsrc.shape
  have hpl := pickD_len src is
  refine enterO (n := 29) (args := [.slice a len cp, ptr b1, ptr b2, ptr b3, ptr b4]) Tryd.func111 rfl rfl rfl fun w0 => ?_
  refine K_seq ?_
  refine K_seq ?_
  refine K_region ?_
  refine KV (R_move rfl) rfl ?_
  refine KV (R_len sl25 rfl) rfl ?_
  refine KV (R_loadH ty3 rfl (h1) rfl (fun _ => rfl) rfl) rfl ?_
  refine KV (R_cmp rfl rfl rfl) rfl ?_
  refine K_nil ?_
  refine Q_then ?_
  refine K_if rfl (fun h11 => ?_) (fun h11 => ?_)
  ·
    have hm0 : m = 0 := by omega
    subst hm0
    refine K_seq ?_
    refine K_region ?_
    refine KV (R_loadH ty139 rfl (h2) rfl (fun _ => rfl) rfl) rfl ?_
    refine KV (R_move rfl) rfl ?_
    refine K_callO (first := []) p [] (by rw [List.append_nil]) hcal rfl rfl rfl (hV0.2 H pre is a len cp p hlen h0 hE hpf hs) ?_
    rintro _ V1 q hle ⟨rfl, hr1⟩
    refine K_nil ?_
    refine Q_then ?_
    refine K_ret ?_
    refine Q_then_ret ?_
    refine results_gen (rs := []) (vs := []) rfl trivial ?_
    refine ⟨rfl, ?_⟩
    rw [List.append_nil]; exact hr1
  ·
    obtain ⟨m, rfl⟩ : ∃ m', m = m' + 1 := ⟨m - 1, by omega⟩
    refine K_skip ?_
    refine Q_then ?_
    refine K_seq ?_
    refine K_region ?_
    refine KV (R_loadH ty25 rfl (h3) rfl (fun _ => rfl) rfl) rfl ?_
    refine KV (R_len sl25 rfl) rfl ?_
    refine KV (R_move rfl) rfl ?_
    refine K_nil ?_
    refine Q_then ?_
    refine K_block ?_
    refine K_loopD (G := Nat × View × HL) [7, 17, 18, 19, 20, 21, 22, 23, 24, 25, 26, 27, 28] (fun g => [(17, .int .i64 (g.1 : Int))]) (fun hl g => g.2.2) (fun g => g.2.1) (fun g => (g.1 ≤ src.length) ∧ (VLe H g.2.1) ∧ (E (pre ++ extTo src.length m is g.1) g.2.1 g.2.2)) (fun g => src.length - g.1) (0, H, p) ⟨Nat.zero_le _, VLe.refl H, by simpa [extTo] using hE⟩ ⟨rfl, trivial⟩ (by simp only [args0, Nat.reduceAdd, del, memN, beqN, Nat.reduceBEq, cond_true, cond_false]; rfl) rfl rfl ?_
    rintro ⟨i, V, q1⟩ ⟨hi0, hVV, hE1⟩
    dsimp only at hi0 hVV hE1
    dsimp only [List.set, List.cons_append, List.nil_append]
    refine K_seq ?_
    refine K_region ?_
    refine KV (R_cmp rfl rfl rfl) rfl ?_
    refine K_nil ?_
    refine Q_then ?_
    refine K_seq ?_
    refine K_if rfl (fun h18 => ?_) (fun h18 => ?_)
    ·
      have hi2 : i < src.length := by omega
      obtain ⟨tb, to_, hte, hta⟩ := (hsrc.mono hVV).get hi2
      cases hte
      refine K_skip ?_
      refine Q_then ?_
      refine K_seq ?_
      refine K_block ?_
      refine K_seq ?_
      refine K_region ?_
      refine KV (R_indexN sl25 ty3 rfl rfl (by omega)) rfl ?_
      refine KV (R_loadH ty3 rfl (hta) rfl (fun _ => rfl) rfl) rfl ?_
      refine KV (R_assign rfl) rfl ?_
      refine K_nil ?_
      refine Q_then ?_
      refine K_regionD (fin := false) (R := [0, 1, 3, 2, 4, 5, 6]) (by kernel_rfl) mixed (List.nil_sublist _) ?_
      refine D_val rfl rfl rfl (R_loadH ty139 rfl (h4.mono hVV) rfl (fun _ => rfl) rfl) ?_
      refine D_val rfl rfl rfl (R_move rfl) ?_
      refine D_val rfl rfl rfl (R_move rfl) ?_
      have hrd23 : Rd V [] (.slice a len cp) (pickD src is).length (ints (pickD src is)) := (hs.mono hVV).1.rd
      refine D_callO (first := []) [] _ rfl rfl c65 rfl rfl (List.Perm.refl _) trivial (clone25o_spec [] (pickD src is) _ V (by rw [show len = (pickD src is).length by omega]; rw [show len = (pickD src is).length by omega] at hrd23; exact hrd23) (by omega)) ?_
      rintro v23 V2 q hle2 rfl
      dsimp only [List.cons_append, List.nil_append]
      refine D_alloc rfl rfl rfl (A_buildSlice (vs := [.int .i64 src[i]]) sl25 ty3 z3 rfl rfl (by simp [Value.cells]) (by simp) rfl (by decide)) fun b25 => ?_
      refine D_append1Pub 0 ap25 rfl rfl rfl rfl rfl rfl trivial rfl rfl ⟨by omega, by omega⟩ fun a26 k26 V3 hle3 hc26 hs26 => ?_
      refine D_callO (first := []) q1 [] rfl rfl c111 rfl rfl (by rw [List.append_nil]; exact List.Perm.refl _) trivial (ih m (by omega) (is ++ [(i : Int)]) (pre ++ extTo src.length m is i) _ ((pickD src is).length + 1) _ V3 q1 (by simp [pickD_len]) (h0.trans (hVV.trans (hle2.trans hle3))) (by omega) ?_ (hV0.1 _ _ _ _ (hle2.trans hle3) hE1) ?_ (h1.mono (hVV.trans (hle2.trans hle3))) (h2.mono (hVV.trans (hle2.trans hle3))) (h3.mono (hVV.trans (hle2.trans hle3))) (hsrc.mono (hVV.trans (hle2.trans hle3))) (h4.mono (hVV.trans (hle2.trans hle3)))) ?_
      · rw [pickD_snoc _ _ _ hi2]
        refine ⟨?_, ?_⟩
        · have e1 : (pickD src is ++ [src[i]]).length = len + 1 := by simp [hpl, hlen]
          have e2 : ints (pickD src is ++ [src[i]]) = ints (pickD src is) ++ [Value.int .i64 src[i]] := by simp [ints]
          rw [e1, e2, ← hlen, ← hpl]
          exact hs26
        · intro x hx
          rcases List.mem_append.1 hx with hx | hx
          · exact hs.2 x hx
          · simp at hx; subst hx; exact hso _ (List.getElem_mem hi2)
      · exact ext_prefix hi2 hpf
      rintro _ V4 q2 hle4 ⟨rfl, hr1⟩
      refine D_done ?_
      refine Q_block ?_
      refine Q_then ?_
      refine K_region ?_
      refine KV (R_add rfl rfl (by omega)) rfl ?_
      refine KV (R_move rfl) rfl ?_
      refine K_nil ?_
      refine Q_nextD (i + 1, V4, q2) ⟨hi2, hVV.trans (hle2.trans (hle3.trans hle4)), by rw [extTo_succ, ← List.append_assoc]; exact hr1⟩ (by (try dsimp only); omega) ⟨rfl, trivial⟩ rfl (List.append_nil _) rfl
    ·
      have hi2 : i = src.length := by omega
      subst hi2
      refine K_exit ?_
      refine Q_then_exit ?_
      refine Q_then_exit ?_
      refine Q_block_exit ?_
      refine Q_fall ?_
      refine results_gen (rs := []) (vs := []) rfl trivial ?_
      exact ⟨rfl, hE1⟩

theorem lists_spec (n gf : Nat) (cap : List Value) (src : List Int) (sv : Value) (E : List (List Int) → View → HL → Prop) (H : View) (p : HL) (hV : VisitL Tryd.prog gf cap H src (ext src.length n []) E) (hcal : callable Tryd.prog gf = true) (hk : src.length ≤ 1048576) (hn : n ≤ 1048576)
    (hsrc : SI H sv src) (hE : E [] H p) : SatO Tryd.prog F93 #[.int .i64 (n : Int), sv, .func (.func gf) #[] cap.toArray] H p (fun v V' q => v = .tuple #[] ∧ E (ext src.length n []) V' q) := by
  obtain ⟨sa, scp, rfl⟩ := hsrc.shape
  refine enterO (n := 10) (args := [.int .i64 (n : Int), .slice sa src.length scp, .func (.func gf) #[] cap.toArray]) Tryd.func93 rfl rfl rfl fun w0 => ?_
  refine K_seq ?_
  refine K_region ?_
  refine KA (A_box rfl) rfl fun b3 => ?_
  refine KA (A_box rfl) rfl fun b4 => ?_
  refine KA (A_box rfl) rfl fun b5 => ?_
  refine K_nil ?_
  refine Q_then ?_
  refine K_seq ?_
  refine K_region ?_
  refine KA (A_alloc z139) rfl fun b6 => ?_
  refine K_nil ?_
  refine Q_then ?_
  refine K_seq ?_
  refine K_region ?_
  refine KV (R_makeFunc rfl rfl) rfl ?_
  refine K_store ty139 0 rfl rfl rfl rfl rfl rfl ?_
  refine K_nil ?_
  refine KQ_pubF fun V1 hle1 hb6 => ?_
  refine KQ_pubF fun V2 hle2 hb5 => ?_
  refine KQ_pubF fun V3 hle3 hb4 => ?_
  refine KQ_pubF fun V4 hle4 hb3 => ?_
  have hv4 := hle1.trans (hle2.trans (hle3.trans hle4))
  refine Q_then ?_
  refine K_region ?_
  refine KV (R_loadH ty139 rfl ((At.of hb6).mono (hle2.trans (hle3.trans hle4))) rfl (fun _ => rfl) rfl) rfl ?_
  refine K_callO (first := []) p [] (by rw [List.append_nil]) c111 rfl rfl rfl (listv_spec n gf cap src _ (ext src.length n []) E H hV hcal hk hn hsrc.2 b3 b5 b4 b6 n [] [] none 0 0 V4 p rfl hv4 (by omega) ⟨⟨none, 0, rfl, .inl ⟨rfl, rfl⟩⟩, by simp [pickD]⟩ (hV.1 _ _ _ _ hv4 hE) (List.prefix_refl _) (At.of hb3) ((At.of hb5).mono (hle3.trans hle4)) ((At.of hb4).mono hle4) (hsrc.mono hv4) ((At.of hb6).mono (hle2.trans (hle3.trans hle4)))) ?_
  rintro _ V5 q hle5 ⟨rfl, hr1⟩
  refine K_nil ?_
  refine Q_fall ?_
  refine results_gen (rs := []) (vs := []) rfl trivial ?_
  refine ⟨rfl, ?_⟩
  rw [List.append_nil]; exact hr1
end Go.Proofs.X
