/-
  Part of the proof: rules for walks, contracts of the functions that the statements reach, plain laws. Own work. No statement of the seat is proved here.
-/
import Derived.Test.YtglmnochbdpmaaaGreatDoorPart2
import Derived.Test.YtglmnochbdpmaaaGreatDoorPart4
import Derived.Test.YtglmnochbdpmaaaGreatDoorPart1
namespace Go.Proofs.X
open Go Pal Go.Proofs
attribute [local irreducible] Pal.KO Pal.KC Pal.KQ Pal.KD
theorem sl2133 : slcOk Tryz.prog T2133 T3 := by unfold slcOk; kernel_rfl
theorem c2159 : callable Tryz.prog F2159 = true := by kernel_rfl
theorem c2160 : callable Tryz.prog F2160 = true := by kernel_rfl
theorem ap2133 : App Tryz.prog T2133 T3 1 8 := .of sl2133 (by kernel_rfl)
theorem trimT_spec (ws : List Nat) (a : Option Addr) (cp : Nat) (H : View) (hv : DW H (.slice a ws.length cp) ws) (hc : ws.length ≤ cp) (hl : ws.length ≤ 1099511627776) : Sat Tryz.prog F2160 #[.slice a ws.length cp] H (fun r H' => ∃ xa k, r = .slice xa k cp ∧ RepD H' (.slice xa k cp) (valT ws)) := by
  have hok := hv.2
  refine enterO (n := 21) (args := [.slice a ws.length cp]) Tryz.func27 rfl rfl rfl fun w0 => ?_
  refine K_seq ?_
  refine K_region ?_
  refine KV (R_assign rfl) rfl ?_
  refine K_nil ?_
  refine Q_then ?_
  refine K_seq ?_
  refine K_block ?_
  refine K_loopD (G := Nat × Option Addr) [0, 3, 4, 5, 6, 7, 8, 9, 10, 11, 12, 13, 14, 15, 16, 17, 18, 19] (fun g => [(0, .slice g.2 g.1 cp)]) (fun hl g => hl) (fun g => H) (fun g => (g.1 ≤ ws.length) ∧ (SlAt H (.slice g.2 g.1 cp) g.1 (digV (ws.take g.1))) ∧ (∀ j (h : j < ws.length), g.1 ≤ j → ws[j] = 0)) (fun g => g.1) (ws.length, a) ⟨Nat.le_refl _, by rw [List.take_length]; exact hv.1, fun j h h2 => by omega⟩ ⟨rfl, trivial⟩ (by simp only [args0, Nat.reduceAdd, del, memN, beqN, Nat.reduceBEq, cond_true, cond_false]; rfl) rfl rfl ?_
  rintro ⟨k, xa⟩ ⟨hk, hs, hz⟩
  dsimp only at hk hs hz
  dsimp only [List.set, List.cons_append, List.nil_append]
  have htl : (ws.take k).length = k := by rw [List.length_take]; omega
  have hu : DW H (.slice xa k cp) (ws.take k) := ⟨by rw [htl]; exact hs, fun x hx => hok x (List.mem_of_mem_take hx)⟩
  refine K_seq ?_
  refine K_seq ?_
  refine K_region ?_
  refine KV (R_move rfl) rfl ?_
  refine KV (R_len sl2133 rfl) rfl ?_
  refine KV (R_cmp rfl rfl rfl) rfl ?_
  refine KV (R_move rfl) rfl ?_
  refine K_split ?_ ?_
  ·
    intro h6
    have hk0 : k - 1 < (ws.take k).length := by omega
    obtain ⟨tb, to_, hte, hta⟩ := hu.get hk0
    cases hte
    have e9 : ((k : Int) - 1).toNat = k - 1 := by omega
    have hta2 : At H tb (to_ + ((k : Int) - 1).toNat * 1) [.int .i64 (((ws.take k)[k - 1] : Nat) : Int)] := by rw [e9]; exact hta
    refine K_gyes rfl rfl ?_
    refine KV (R_move rfl) rfl ?_
    refine K_gyes rfl rfl ?_
    refine KV (R_move rfl) rfl ?_
    refine K_gyes rfl rfl ?_
    refine KV (R_len sl2133 rfl) rfl ?_
    refine K_gyes rfl rfl ?_
    refine KV (R_sub rfl rfl (by omega)) rfl ?_
    refine K_gyes rfl rfl ?_
    refine KV (R_index sl2133 ty3 rfl rfl ⟨by omega, by omega⟩) rfl ?_
    refine K_gyes rfl rfl ?_
    refine KV (R_loadH ty3 rfl (hta2) rfl (fun _ => rfl) rfl) rfl ?_
    refine K_gyes rfl rfl ?_
    refine KV (R_cmp rfl rfl rfl) rfl ?_
    refine KV (R_pickT rfl rfl) rfl ?_
    refine K_nil ?_
    refine Q_then ?_
    refine K_if rfl (fun h14 => ?_) (fun h14 => ?_)
    ·
      have hz0 : ws[k - 1]'(by omega) = 0 := by rw [List.getElem_take] at h14; omega
      have hwt : (digV (ws.take k)).take (k - 1) = digV (ws.take (k - 1)) := by
        unfold digV
        rw [← List.map_take, List.take_take, Nat.min_eq_left (by omega)]
      refine K_skip ?_
      refine Q_then ?_
      refine K_block ?_
      refine K_region ?_
      refine KV (R_move rfl) rfl ?_
      refine KV (R_move rfl) rfl ?_
      refine KV (R_len sl2133 rfl) rfl ?_
      refine KV (R_sub rfl rfl (by omega)) rfl ?_
      rw [show (k : Int) - 1 = ((k - 1 : Nat) : Int) by omega]
      refine KV (R_sliceHi (m := k - 1) sl2133 ty3 rfl rfl (by omega)) rfl ?_
      refine KV (R_assign rfl) rfl ?_
      refine K_nil ?_
      refine Q_block ?_
      refine Q_nextD (k - 1, (if cp = 0 then some ⟨tb, to_, none⟩ else (some (⟨tb, to_, none⟩ : Addr)).map (·.add 0))) ⟨by dsimp only; omega, by have h3 := hs.hi (m := k - 1) (sz := 1) (by omega) (by omega); rw [Nat.mul_one, hwt] at h3; exact h3, fun j h h2 => by
          dsimp only at h2
          by_cases e : j = k - 1
          · subst e; exact hz0
          · exact hz j h (by omega)⟩ (by (try dsimp only); omega) ⟨rfl, trivial⟩ rfl rfl rfl
    ·
      refine K_exit ?_
      refine Q_then_exit ?_
      refine Q_then_exit ?_
      refine Q_block_exit ?_
      refine Q_then ?_
      refine K_seq ?_
      refine K_region ?_
      refine KV (R_move rfl) rfl ?_
      refine KV (R_assign rfl) rfl ?_
      refine K_nil ?_
      refine Q_then ?_
      refine K_ret ?_
      refine results_gen (rs := [.tmp 2]) (vs := [_]) rfl ⟨rfl, trivial⟩ ?_
      refine ⟨_, _, rfl, ws.take k, ?_, valT_take hz, ?_⟩
      · refine CanT.take hok hk ?_
        by_cases h0 : k = 0
        · exact .inl h0
        · first
          | (exfalso; omega)
          | (refine .inr ⟨by omega, ?_⟩; intro e; rw [List.getElem_take] at h14; omega)
      · exact hu
  ·
    intro h6
    refine K_gno rfl rfl rfl rfl ?_
    refine K_gno rfl rfl rfl rfl ?_
    refine K_gno rfl rfl rfl rfl ?_
    refine K_gno rfl rfl rfl rfl ?_
    refine K_gno rfl rfl rfl rfl ?_
    refine K_gno rfl rfl rfl rfl ?_
    refine K_gno rfl rfl rfl rfl ?_
    refine KV (R_pickF rfl rfl) rfl ?_
    refine K_nil ?_
    refine Q_then ?_
    refine K_ifF rfl ?_
    refine K_exit ?_
    refine Q_then_exit ?_
    refine Q_then_exit ?_
    refine Q_block_exit ?_
    refine Q_then ?_
    refine K_seq ?_
    refine K_region ?_
    refine KV (R_move rfl) rfl ?_
    refine KV (R_assign rfl) rfl ?_
    refine K_nil ?_
    refine Q_then ?_
    refine K_ret ?_
    refine results_gen (rs := [.tmp 2]) (vs := [_]) rfl ⟨rfl, trivial⟩ ?_
    refine ⟨_, _, rfl, ws.take k, ?_, valT_take hz, ?_⟩
    · refine CanT.take hok hk ?_
      by_cases h0 : k = 0
      · exact .inl h0
      · first
        | (exfalso; omega)
        | (refine .inr ⟨by omega, ?_⟩; intro e; rw [List.getElem_take] at h14; omega)
    · exact hu

theorem at02_spec (ws : List Nat) (i : Nat) (v : Value) (H : View) (hv : DW H v ws) (hl : ws.length ≤ 1099511627776) : Sat Tryz.prog F2159 #[v, .int .i64 (i : Int)] H (fun r _ => r = .int .i64 ((ws.getD i 0 : Nat) : Int)) := by
  obtain ⟨a, cp, rfl⟩ := hv.shape
  refine enterO (n := 13) (args := [.slice a ws.length cp, .int .i64 (i : Int)]) Tryz.func26 rfl rfl rfl fun w0 => ?_
  refine K_seq ?_
  refine K_region ?_
  refine KV (R_assign rfl) rfl ?_
  refine K_nil ?_
  refine Q_then ?_
  refine K_seq ?_
  refine K_seq ?_
  refine K_region ?_
  refine KV (R_move rfl) rfl ?_
  refine KV (R_move rfl) rfl ?_
  refine KV (R_len sl2133 rfl) rfl ?_
  refine KV (R_cmp rfl rfl rfl) rfl ?_
  refine K_nil ?_
  refine Q_then ?_
  refine K_if rfl (fun h8 => ?_) (fun h8 => ?_)
  ·
    have hi : i < ws.length := by omega
    obtain ⟨vb, vo, hve, hva⟩ := hv.get hi
    cases hve
    refine K_seq ?_
    refine K_region ?_
    refine KV (R_move rfl) rfl ?_
    refine KV (R_move rfl) rfl ?_
    refine KV (R_indexN sl2133 ty3 rfl rfl (by omega)) rfl ?_
    refine KV (R_loadH ty3 rfl (hva) rfl (fun _ => rfl) rfl) rfl ?_
    refine KV (R_assign rfl) rfl ?_
    refine K_nil ?_
    refine Q_then ?_
    refine K_ret ?_
    refine Q_then_ret ?_
    refine results_gen (rs := [.tmp 4]) (vs := [_]) rfl ⟨rfl, trivial⟩ ?_
    rw [show ws.getD i 0 = ws[i] by simp [List.getD, hi]]; rfl
  ·
    refine K_skip ?_
    refine Q_then ?_
    refine K_seq ?_
    refine K_region ?_
    refine KV (R_assign rfl) rfl ?_
    refine K_nil ?_
    refine Q_then ?_
    refine K_ret ?_
    refine results_gen (rs := [.tmp 4]) (vs := [_]) rfl ⟨rfl, trivial⟩ ?_
    rw [show ws.getD i 0 = 0 by simp [List.getD, show ws.length ≤ i by omega]]; rfl

theorem of1_spec (H : View) : Sat Tryz.prog F2157 #[.int .u64 1] H (fun r H' => RepD H' r 1) := by
  refine enterO (n := 15) (args := [.int .u64 1]) Tryz.func24 rfl rfl rfl fun w0 => ?_
  refine K_seq ?_
  refine K_region ?_
  refine KV (R_assign rfl) rfl ?_
  refine K_nil ?_
  refine Q_then ?_
  refine K_seq ?_
  refine K_region ?_
  refine KV (R_assign rfl) rfl ?_
  refine K_nil ?_
  refine Q_then ?_
  refine K_seq ?_
  refine K_block ?_
  refine K_nilrow T3 1 ?_
  refine K_loopD (G := Nat × List Nat × Value) [0, 3, 4, 5, 6, 7, 8, 9, 10, 11, 12, 13] (fun g => [(0, .int .u64 (g.1 : Int)), (3, g.2.2)]) (fun hl g => (hl.set 0 (row g.2.2 T3 1 g.2.1.length (digV g.2.1)))) (fun g => H) (fun g => ((g.1 = 1 ∧ g.2.1 = []) ∨ (g.1 = 0 ∧ g.2.1 = [1])) ∧ (∃ ad cp, g.2.2 = .slice ad g.2.1.length cp)) (fun g => g.1) (1, [], nilS) ⟨.inl ⟨rfl, rfl⟩, none, 0, rfl⟩ ⟨rfl, rfl, trivial⟩ (by simp only [args0, Nat.reduceAdd, del, memN, beqN, Nat.reduceBEq, cond_true, cond_false]; rfl) rfl rfl ?_
  rintro ⟨m, os, w⟩ ⟨hI, hw⟩
  dsimp only at hI hw
  dsimp only [List.set, List.cons_append, List.nil_append]
  obtain ⟨wa, wcp, rfl⟩ := hw
  refine K_seq ?_
  refine K_seq ?_
  refine K_region ?_
  refine KV (R_move rfl) rfl ?_
  refine KV (R_cmp rfl rfl rfl) rfl ?_
  refine K_nil ?_
  refine Q_then ?_
  refine K_if rfl (fun h5 => ?_) (fun h5 => ?_)
  ·
    obtain ⟨rfl, rfl⟩ : m = 1 ∧ os = [] := by
      rcases hI with h | ⟨h, _⟩
      · exact h
      · subst h; exact absurd h5 (by decide)
    have hnl : ([] : List Nat).length = 0 := rfl
    refine K_skip ?_
    refine Q_then ?_
    refine K_block ?_
    refine K_seq ?_
    refine K_region ?_
    refine KV (R_move rfl) rfl ?_
    refine KV (R_move rfl) rfl ?_
    refine KV (R_rem rfl rfl (by omega)) rfl ?_
    rw [show ((1 : Nat) : Int).tmod 10 = 1 from rfl]
    refine KV (R_convII (k := .i64) (r := 1) (by kernel_rfl) ⟨_, Tryz.underlying66⟩ rfl (by decide)) rfl ?_
    refine KA (A_buildSlice (vs := [.int .i64 1]) sl2133 ty3 z3 rfl rfl (by simp [Value.cells]) (by simp) rfl (by decide)) rfl fun b10 => ?_
    refine K_append1 0 ap2133 rfl rfl rfl rfl rfl rfl ⟨by omega, by omega⟩ rfl fun a11 k11 hn11 => ?_
    refine KV (R_assign rfl) rfl ?_
    refine K_nil ?_
    refine Q_then ?_
    refine K_region ?_
    refine KV (R_move rfl) rfl ?_
    refine KV (R_quo (r := 0) rfl rfl (by decide) (by decide)) rfl ?_
    refine KV (R_assign rfl) rfl ?_
    refine K_nil ?_
    refine Q_block ?_
    refine Q_nextD (0, [1], .slice a11 1 k11) ⟨.inr ⟨rfl, rfl⟩, _, _, rfl⟩ (by (try dsimp only); omega) ⟨rfl, rfl, trivial⟩ rfl rfl rfl
  ·
    obtain ⟨rfl, rfl⟩ : m = 0 ∧ os = [1] := by
      rcases hI with ⟨h, _⟩ | h
      · subst h; exact absurd (by decide) h5
      · exact h
    refine K_exit ?_
    refine Q_then_exit ?_
    refine Q_then_exit ?_
    refine Q_block_exit ?_
    refine Q_then ?_
    refine K_seq ?_
    refine K_region ?_
    refine KV (R_move rfl) rfl ?_
    refine KV (R_assign rfl) rfl ?_
    refine K_nil ?_
    refine Q_then ?_
    refine K_ret ?_
    refine KQ_pubrow rfl fun Hp hp hrow => ?_
    refine results_gen (rs := [.tmp 2]) (vs := [_]) rfl ⟨rfl, trivial⟩ ?_
    exact ⟨[1], ⟨fun w hw => by simp at hw; subst hw; decide, by simp⟩, rfl, hrow.sl, fun w hw => by simp at hw; subst hw; decide⟩

theorem add02_spec (xs ys : List Nat) (v w : Value) (H : View) (hv : DW H v xs) (hw : DW H w ys) (hlx : xs.length ≤ 1048576) (hly : ys.length ≤ 1048576) : Sat Tryz.prog F2151 #[v, w] H (fun r H' => RepD H' r (valT xs + valT ys)) := by
  obtain ⟨a, cp, rfl⟩ := hv.shape
  obtain ⟨a2, cp2, rfl⟩ := hw.shape
  obtain ⟨M, hM⟩ : ∃ M, M = max xs.length ys.length := ⟨_, rfl⟩
  refine enterO (n := 43) (args := [.slice a xs.length cp, .slice a2 ys.length cp2]) Tryz.func10 rfl rfl rfl fun w0 => ?_
  refine K_seq ?_
  refine K_region ?_
  refine KV (R_assign rfl) rfl ?_
  refine K_nil ?_
  refine Q_then ?_
  refine K_seq ?_
  refine K_region ?_
  refine KV (R_assign rfl) rfl ?_
  refine K_nil ?_
  refine Q_then ?_
  refine K_seq ?_
  refine K_region ?_
  refine KV (R_assign rfl) rfl ?_
  refine K_nil ?_
  refine Q_then ?_
  refine K_seq ?_
  refine K_seq ?_
  refine K_region ?_
  refine KV (R_assign rfl) rfl ?_
  refine K_nil ?_
  refine Q_then ?_
  refine K_block ?_
  refine K_nilrow T3 1 ?_
  refine K_loopD (G := Nat × View × Option Addr × Nat) [5, 6, 7, 8, 9, 10, 11, 12, 13, 14, 15, 16, 17, 18, 19, 20, 21, 22, 23, 24, 25, 26, 27, 28, 29, 30, 31, 32, 33, 34, 35, 36, 37, 38, 39, 40] (fun g => [(7, .int .i64 (g.1 : Int)), (6, .int .i64 ((addT xs ys g.1).2 : Int)), (5, .slice g.2.2.1 g.1 g.2.2.2)]) (fun hl g => (hl.set 0 (row (.slice g.2.2.1 g.1 g.2.2.2) T3 1 g.1 (digV (addT xs ys g.1).1)))) (fun g => g.2.1) (fun g => (g.1 ≤ M ∨ (g.1 = M + 1 ∧ (addT xs ys g.1).2 = 0)) ∧ (VLe H g.2.1)) (fun g => M + 1 - g.1) (0, H, none, 0) ⟨.inl (Nat.zero_le _), VLe.refl _⟩ ⟨rfl, rfl, rfl, trivial⟩ (by simp only [args0, Nat.reduceAdd, del, memN, beqN, Nat.reduceBEq, cond_true, cond_false]; rfl) rfl rfl ?_
  rintro ⟨i, V, xa, xc⟩ ⟨hi, hV⟩
  dsimp only at hi hV
  dsimp only [List.set, List.cons_append, List.nil_append]
  obtain ⟨hdo, hdc⟩ := addT_ok hv.2 hw.2 i
  have hdl := addT_len xs ys i
  have hx10 := dig_getD hv.2 i
  have hy10 := dig_getD hw.2 i
  refine K_seq ?_
  refine K_seq ?_
  refine K_region ?_
  refine KV (R_move rfl) rfl ?_
  refine KV (R_move rfl) rfl ?_
  refine KV (R_len sl2133 rfl) rfl ?_
  refine KV (R_cmp rfl rfl rfl) rfl ?_
  refine K_split ?_ ?_
  ·
    intro h12
    refine KV (R_move rfl) rfl ?_
    refine K_gno rfl rfl rfl rfl ?_
    refine K_gno rfl rfl rfl rfl ?_
    refine K_gno rfl rfl rfl rfl ?_
    refine K_gno rfl rfl rfl rfl ?_
    refine KV (R_pickT rfl rfl) rfl ?_
    refine KV (R_move rfl) rfl ?_
    refine K_gno rfl rfl rfl rfl ?_
    refine K_gno rfl rfl rfl rfl ?_
    refine KV (R_pickT rfl rfl) rfl ?_
    refine K_nil ?_
    refine Q_then ?_
    refine K_ifT rfl ?_
    refine K_skip ?_
    refine Q_then ?_
    refine K_seq ?_
    refine K_block ?_
    refine K_seq ?_
    refine K_region ?_
    refine KV (R_move rfl) rfl ?_
    refine KV (R_move rfl) rfl ?_
    refine K_call c2159 rfl rfl (at02_spec xs i _ V (hv.mono hV) (by omega)) ?_
    rintro _ V1 hv1 rfl
    refine KV (R_move rfl) rfl ?_
    refine KV (R_move rfl) rfl ?_
    refine K_call c2159 rfl rfl (at02_spec ys i _ V1 (hw.mono (hV.trans hv1)) (by omega)) ?_
    rintro _ V2 hv2 rfl
    refine KV (R_add rfl rfl (by omega)) rfl ?_
    refine KV (R_move rfl) rfl ?_
    refine KV (R_add rfl rfl (by omega)) rfl ?_
    rw [show ((xs.getD i 0 : Nat) : Int) + ((ys.getD i 0 : Nat) : Int) + (((addT xs ys i).2 : Nat) : Int) = (((xs.getD i 0 + ys.getD i 0 + (addT xs ys i).2) : Nat) : Int) by omega]
    refine KV (R_assign rfl) rfl ?_
    refine K_nil ?_
    refine Q_then ?_
    refine K_seq ?_
    refine K_region ?_
    refine KV (R_move rfl) rfl ?_
    refine KV (R_move rfl) rfl ?_
    refine KV (R_rem rfl rfl (by omega)) rfl ?_
    rw [tmod10]
    refine KA (A_buildSlice (vs := [.int .i64 (((xs.getD i 0 + ys.getD i 0 + (addT xs ys i).2) % 10 : Nat) : Int)]) sl2133 ty3 z3 rfl rfl (by simp [Value.cells]) (by simp) rfl (by decide)) rfl fun b37 => ?_
    refine K_append1 0 ap2133 rfl rfl rfl rfl rfl rfl ⟨by omega, by omega⟩ rfl fun a38 k38 hn38 => ?_
    refine KV (R_assign rfl) rfl ?_
    refine K_nil ?_
    refine Q_then ?_
    refine K_region ?_
    refine KV (R_move rfl) rfl ?_
    refine KV (R_quo rfl rfl (by decide) (wrap10 (by omega))) rfl ?_
    refine KV (R_assign rfl) rfl ?_
    refine K_nil ?_
    refine Q_block ?_
    refine Q_then ?_
    refine K_region ?_
    refine KV (R_move rfl) rfl ?_
    refine KV (R_add rfl rfl (by omega)) rfl ?_
    refine KV (R_assign rfl) rfl ?_
    refine K_nil ?_
    refine Q_nextD (i + 1, V2, a38, k38) ⟨by
      have hi' : i ≤ M := by omega
      rcases Nat.lt_or_ge i M with h | h
      · exact .inl (by omega)
      · exact .inr ⟨by omega, addT_top hv.2 hw.2 (by omega) (by omega)⟩, hV.trans (hv1.trans hv2)⟩ (by (try dsimp only); omega) ⟨rfl, rfl, rfl, trivial⟩ rfl (by dsimp only [addT]; rw [digV_snoc]; rfl) rfl
  ·
    intro h12
    refine KV (R_move rfl) rfl ?_
    refine K_gyes rfl rfl ?_
    refine KV (R_move rfl) rfl ?_
    refine K_gyes rfl rfl ?_
    refine KV (R_move rfl) rfl ?_
    refine K_gyes rfl rfl ?_
    refine KV (R_len sl2133 rfl) rfl ?_
    refine K_gyes rfl rfl ?_
    refine KV (R_cmp rfl rfl rfl) rfl ?_
    refine K_split ?_ ?_
    ·
      intro h17
      refine KV (R_pickF rfl rfl) rfl ?_
      refine KV (R_move rfl) rfl ?_
      refine K_gno rfl rfl rfl rfl ?_
      refine K_gno rfl rfl rfl rfl ?_
      refine KV (R_pickT rfl rfl) rfl ?_
      refine K_nil ?_
      refine Q_then ?_
      refine K_ifT rfl ?_
      refine K_skip ?_
      refine Q_then ?_
      refine K_seq ?_
      refine K_block ?_
      refine K_seq ?_
      refine K_region ?_
      refine KV (R_move rfl) rfl ?_
      refine KV (R_move rfl) rfl ?_
      refine K_call c2159 rfl rfl (at02_spec xs i _ V (hv.mono hV) (by omega)) ?_
      rintro _ V1 hv1 rfl
      refine KV (R_move rfl) rfl ?_
      refine KV (R_move rfl) rfl ?_
      refine K_call c2159 rfl rfl (at02_spec ys i _ V1 (hw.mono (hV.trans hv1)) (by omega)) ?_
      rintro _ V2 hv2 rfl
      refine KV (R_add rfl rfl (by omega)) rfl ?_
      refine KV (R_move rfl) rfl ?_
      refine KV (R_add rfl rfl (by omega)) rfl ?_
      rw [show ((xs.getD i 0 : Nat) : Int) + ((ys.getD i 0 : Nat) : Int) + (((addT xs ys i).2 : Nat) : Int) = (((xs.getD i 0 + ys.getD i 0 + (addT xs ys i).2) : Nat) : Int) by omega]
      refine KV (R_assign rfl) rfl ?_
      refine K_nil ?_
      refine Q_then ?_
      refine K_seq ?_
      refine K_region ?_
      refine KV (R_move rfl) rfl ?_
      refine KV (R_move rfl) rfl ?_
      refine KV (R_rem rfl rfl (by omega)) rfl ?_
      rw [tmod10]
      refine KA (A_buildSlice (vs := [.int .i64 (((xs.getD i 0 + ys.getD i 0 + (addT xs ys i).2) % 10 : Nat) : Int)]) sl2133 ty3 z3 rfl rfl (by simp [Value.cells]) (by simp) rfl (by decide)) rfl fun b37 => ?_
      refine K_append1 0 ap2133 rfl rfl rfl rfl rfl rfl ⟨by omega, by omega⟩ rfl fun a38 k38 hn38 => ?_
      refine KV (R_assign rfl) rfl ?_
      refine K_nil ?_
      refine Q_then ?_
      refine K_region ?_
      refine KV (R_move rfl) rfl ?_
      refine KV (R_quo rfl rfl (by decide) (wrap10 (by omega))) rfl ?_
      refine KV (R_assign rfl) rfl ?_
      refine K_nil ?_
      refine Q_block ?_
      refine Q_then ?_
      refine K_region ?_
      refine KV (R_move rfl) rfl ?_
      refine KV (R_add rfl rfl (by omega)) rfl ?_
      refine KV (R_assign rfl) rfl ?_
      refine K_nil ?_
      refine Q_nextD (i + 1, V2, a38, k38) ⟨by
        have hi' : i ≤ M := by omega
        rcases Nat.lt_or_ge i M with h | h
        · exact .inl (by omega)
        · exact .inr ⟨by omega, addT_top hv.2 hw.2 (by omega) (by omega)⟩, hV.trans (hv1.trans hv2)⟩ (by (try dsimp only); omega) ⟨rfl, rfl, rfl, trivial⟩ rfl (by dsimp only [addT]; rw [digV_snoc]; rfl) rfl
    ·
      intro h17
      refine KV (R_pickF rfl rfl) rfl ?_
      refine KV (R_move rfl) rfl ?_
      refine K_gyes rfl rfl ?_
      refine KV (R_move rfl) rfl ?_
      refine K_gyes rfl rfl ?_
      refine KV (R_cmp rfl rfl rfl) rfl ?_
      refine K_split ?_ ?_
      ·
        intro h21
        refine KV (R_pickF rfl rfl) rfl ?_
        refine K_nil ?_
        refine Q_then ?_
        refine K_ifT rfl ?_
        refine K_skip ?_
        refine Q_then ?_
        refine K_seq ?_
        refine K_block ?_
        refine K_seq ?_
        refine K_region ?_
        refine KV (R_move rfl) rfl ?_
        refine KV (R_move rfl) rfl ?_
        refine K_call c2159 rfl rfl (at02_spec xs i _ V (hv.mono hV) (by omega)) ?_
        rintro _ V1 hv1 rfl
        refine KV (R_move rfl) rfl ?_
        refine KV (R_move rfl) rfl ?_
        refine K_call c2159 rfl rfl (at02_spec ys i _ V1 (hw.mono (hV.trans hv1)) (by omega)) ?_
        rintro _ V2 hv2 rfl
        refine KV (R_add rfl rfl (by omega)) rfl ?_
        refine KV (R_move rfl) rfl ?_
        refine KV (R_add rfl rfl (by omega)) rfl ?_
        rw [show ((xs.getD i 0 : Nat) : Int) + ((ys.getD i 0 : Nat) : Int) + (((addT xs ys i).2 : Nat) : Int) = (((xs.getD i 0 + ys.getD i 0 + (addT xs ys i).2) : Nat) : Int) by omega]
        refine KV (R_assign rfl) rfl ?_
        refine K_nil ?_
        refine Q_then ?_
        refine K_seq ?_
        refine K_region ?_
        refine KV (R_move rfl) rfl ?_
        refine KV (R_move rfl) rfl ?_
        refine KV (R_rem rfl rfl (by omega)) rfl ?_
        rw [tmod10]
        refine KA (A_buildSlice (vs := [.int .i64 (((xs.getD i 0 + ys.getD i 0 + (addT xs ys i).2) % 10 : Nat) : Int)]) sl2133 ty3 z3 rfl rfl (by simp [Value.cells]) (by simp) rfl (by decide)) rfl fun b37 => ?_
        refine K_append1 0 ap2133 rfl rfl rfl rfl rfl rfl ⟨by omega, by omega⟩ rfl fun a38 k38 hn38 => ?_
        refine KV (R_assign rfl) rfl ?_
        refine K_nil ?_
        refine Q_then ?_
        refine K_region ?_
        refine KV (R_move rfl) rfl ?_
        refine KV (R_quo rfl rfl (by decide) (wrap10 (by omega))) rfl ?_
        refine KV (R_assign rfl) rfl ?_
        refine K_nil ?_
        refine Q_block ?_
        refine Q_then ?_
        refine K_region ?_
        refine KV (R_move rfl) rfl ?_
        refine KV (R_add rfl rfl (by omega)) rfl ?_
        refine KV (R_assign rfl) rfl ?_
        refine K_nil ?_
        refine Q_nextD (i + 1, V2, a38, k38) ⟨by
          have hi' : i ≤ M := by omega
          rcases Nat.lt_or_ge i M with h | h
          · exact .inl (by omega)
          · exact .inr ⟨by omega, addT_top hv.2 hw.2 (by omega) (by omega)⟩, hV.trans (hv1.trans hv2)⟩ (by (try dsimp only); omega) ⟨rfl, rfl, rfl, trivial⟩ rfl (by dsimp only [addT]; rw [digV_snoc]; rfl) rfl
      ·
        intro h21
        refine KV (R_pickF rfl rfl) rfl ?_
        refine K_nil ?_
        refine Q_then ?_
        refine K_ifF rfl ?_
        refine K_exit ?_
        refine Q_then_exit ?_
        refine Q_then_exit ?_
        refine Q_block_exit ?_
        refine Q_then ?_
        refine K_seq ?_
        refine K_region ?_
        refine KV (R_move rfl) rfl ?_
        refine KO_pubrowF fun U hU hrow hcap => ?_
        try dsimp only [List.eraseIdx]
        obtain ⟨ua, uc, he, hcle⟩ := hcap
        cases he
        have hcall := trimT_spec (addT xs ys i).1 xa xc U ⟨by rw [hdl]; exact hrow.sl, hdo⟩ (by rw [hdl]; exact hcle) (by omega)
        rw [hdl] at hcall
        refine K_call c2160 rfl rfl hcall ?_
        rintro _ V3 hv3 ⟨xa3, k3, rfl, hN⟩
        rw [addT_done (by omega) (by omega) (by omega)] at hN
        refine KV (R_assign rfl) rfl ?_
        refine K_nil ?_
        refine Q_then ?_
        refine K_ret ?_
        refine results_gen (rs := [.tmp 4]) (vs := [_]) rfl ⟨rfl, trivial⟩ ?_
        exact hN

theorem mul02_spec (xs ys : List Nat) (v w : Value) (H : View) (hv : DW H v xs) (hw : DW H w ys) (hlx : xs.length ≤ 1048576) (hly : ys.length ≤ 1048576) : Sat Tryz.prog F2158 #[v, w] H (fun r H' => RepD H' r (valT xs * valT ys)) := by
  obtain ⟨a, cp, rfl⟩ := hv.shape
  obtain ⟨a2, cp2, rfl⟩ := hw.shape
  refine enterO (n := 60) (args := [.slice a xs.length cp, .slice a2 ys.length cp2]) Tryz.func25 rfl rfl rfl fun w0 => ?_
  refine K_seq ?_
  refine K_region ?_
  refine KV (R_assign rfl) rfl ?_
  refine K_nil ?_
  refine Q_then ?_
  refine K_seq ?_
  refine K_region ?_
  refine KV (R_move rfl) rfl ?_
  refine KV (R_len sl2133 rfl) rfl ?_
  refine KV (R_move rfl) rfl ?_
  refine KV (R_len sl2133 rfl) rfl ?_
  refine KV (R_add rfl rfl (by omega)) rfl ?_
  rw [show (xs.length : Int) + (ys.length : Int) = ((xs.length + ys.length : Nat) : Int) by omega]
  refine KA (A_makeSlice (k := xs.length + ys.length) ap2133 z3 ty3 rfl rfl (by omega) (by omega)) rfl fun b15 => ?_
  refine KV (R_assign rfl) rfl ?_
  refine K_nil ?_
  rw [digV_made]
  refine Q_then ?_
  refine K_seq ?_
  refine K_seq ?_
  refine K_region ?_
  refine KV (R_assign rfl) rfl ?_
  refine K_nil ?_
  refine Q_then ?_
  refine K_block ?_
  refine K_loopD (G := Nat × View × List Nat) [6, 7, 8, 9, 16, 17, 18, 19, 20, 21, 22, 23, 24, 25, 26, 27, 28, 29, 30, 31, 32, 33, 34, 35, 36, 37, 38, 39, 40, 41, 42, 43, 44, 45, 46, 47, 48, 49, 50, 51, 52, 53, 54, 55, 56, 57] (fun g => [(6, .int .i64 (g.1 : Int))]) (fun hl g => (hl.set 0 (blk b15 (.cells (digV g.2.2).toArray T3 (0, 0))))) (fun g => g.2.1) (fun g => (g.1 ≤ xs.length) ∧ (VLe H g.2.1) ∧ (MulT xs ys g.2.2 g.1 0 0)) (fun g => xs.length - g.1) (0, H, List.replicate (xs.length + ys.length) 0) ⟨Nat.zero_le _, VLe.refl _, MulT.start xs ys⟩ ⟨rfl, trivial⟩ (by simp only [args0, Nat.reduceAdd, del, memN, beqN, Nat.reduceBEq, cond_true, cond_false]; rfl) rfl rfl ?_
  rintro ⟨i, V, os⟩ ⟨hi, hV, hM⟩
  dsimp only at hi hV hM
  dsimp only [List.set, List.cons_append, List.nil_append]
  have hol := hM.len
  refine K_seq ?_
  refine K_seq ?_
  refine K_region ?_
  refine KV (R_move rfl) rfl ?_
  refine KV (R_move rfl) rfl ?_
  refine KV (R_len sl2133 rfl) rfl ?_
  refine KV (R_cmp rfl rfl rfl) rfl ?_
  refine K_nil ?_
  refine Q_then ?_
  refine K_if rfl (fun h19 => ?_) (fun h19 => ?_)
  ·
    have hi' : i < xs.length := by omega
    obtain ⟨xb, xo, hxe, hxa⟩ := (hv.mono hV).get hi'
    cases hxe
    have hxl := hv.2 _ (List.getElem_mem hi')
    refine K_skip ?_
    refine Q_then ?_
    refine K_seq ?_
    refine K_block ?_
    refine K_seq ?_
    refine K_region ?_
    refine KV (R_assign rfl) rfl ?_
    refine K_nil ?_
    refine Q_then ?_
    refine K_seq ?_
    refine K_region ?_
    refine KV (R_assign rfl) rfl ?_
    refine K_nil ?_
    refine Q_then ?_
    refine K_block ?_
    refine K_loopD (G := Nat × Nat × View × List Nat) [7, 8, 9, 22, 23, 24, 25, 26, 27, 28, 29, 30, 31, 32, 33, 34, 35, 36, 37, 38, 39, 40, 41, 42, 43, 44, 45, 46, 47, 48, 49, 50, 51, 52, 53, 54, 55, 56, 57] (fun g => [(8, .int .i64 (g.1 : Int)), (7, .int .i64 (g.2.1 : Int))]) (fun hl g => (hl.set 0 (blk b15 (.cells (digV g.2.2.2).toArray T3 (0, 0))))) (fun g => g.2.2.1) (fun g => (g.1 ≤ ys.length + 1) ∧ (VLe V g.2.2.1) ∧ (MulT xs ys g.2.2.2 i g.1 g.2.1)) (fun g => ys.length + 1 - g.1) (0, 0, V, os) ⟨Nat.zero_le _, VLe.refl _, hM⟩ ⟨rfl, rfl, trivial⟩ (by simp only [args0, Nat.reduceAdd, del, memN, beqN, Nat.reduceBEq, cond_true, cond_false]; rfl) rfl rfl ?_
    rintro ⟨k, c, U, os2⟩ ⟨hk, hU, hM2⟩
    dsimp only at hk hU hM2
    dsimp only [List.set, List.cons_append, List.nil_append]
    have hol2 := hM2.len
    have hcl := hM2.cl
    refine K_seq ?_
    refine K_seq ?_
    refine K_region ?_
    refine KV (R_move rfl) rfl ?_
    refine KV (R_move rfl) rfl ?_
    refine KV (R_len sl2133 rfl) rfl ?_
    refine KV (R_cmp rfl rfl rfl) rfl ?_
    refine K_split ?_ ?_
    ·
      intro h25
      refine KV (R_move rfl) rfl ?_
      refine K_gno rfl rfl rfl rfl ?_
      refine K_gno rfl rfl rfl rfl ?_
      refine KV (R_pickT rfl rfl) rfl ?_
      refine K_nil ?_
      refine Q_then ?_
      refine K_ifT rfl ?_
      refine K_skip ?_
      refine Q_then ?_
      refine K_seq ?_
      refine K_block ?_
      refine K_seq ?_
      obtain ⟨hkl, hj⟩ := hM2.fits hv.2 hw.2 hi' (by omega)
      obtain ⟨hz, hMs⟩ := hM2.step hv.2 hw.2 hj
      have hz2 := hz
      rw [show xs.getD i 0 = xs[i] by simp [List.getD, hi']] at hz2
      refine K_regionD (fin := false) (R := [0, 1, 2, 3, 4, 5, 6, 7, 8, 9, 10, 11, 15, 12, 13, 14, 16, 17]) (by kernel_rfl) mixed (.cons_cons _ (List.nil_sublist _)) ?_
      refine D_val rfl rfl rfl (R_move rfl) ?_
      refine D_val rfl rfl rfl (R_move rfl) ?_
      refine D_val rfl rfl rfl (R_move rfl) ?_
      refine D_val rfl rfl rfl (R_add rfl rfl (by omega)) ?_
      refine D_val rfl rfl rfl (R_indexN (i := i + k) sl2133 ty3 rfl (by show some _ = some _; congr 2) (by omega)) ?_
      refine D_val rfl rfl rfl (R_loadC ty3 0 rfl rfl (by simp [digV, hj] : ((digV os2).toArray)[(0 + (i + k) * 1)]? = some (.int .i64 (os2[i + k] : Int)))) ?_
      refine D_val rfl rfl rfl (R_move rfl) ?_
      refine D_val rfl rfl rfl (R_move rfl) ?_
      refine D_val rfl rfl rfl (R_indexN sl2133 ty3 rfl rfl (by omega)) ?_
      refine D_val rfl rfl rfl (R_loadH ty3 rfl (hxa.mono hU) rfl (fun _ => rfl) rfl) ?_
      refine D_val rfl rfl rfl (R_move rfl) ?_
      refine D_val rfl rfl rfl (R_move rfl) ?_
      refine D_val rfl rfl rfl (R_move rfl) ?_
      refine D_call rfl rfl c2159 rfl ⟨⟨0, rfl⟩, trivial⟩ (at02_spec ys k _ U (hw.mono (hV.trans hU)) (by omega)) ?_
      rintro _ U1 hv1 rfl
      refine D_val rfl rfl rfl (R_mul rfl rfl (by have := Int.mul_nonneg (a := ((xs[i] : Nat) : Int)) (b := ((ys.getD k 0 : Nat) : Int)) (by omega) (by omega); omega)) ?_
      refine D_val rfl rfl rfl (R_add rfl rfl (by omega)) ?_
      refine D_val rfl rfl rfl (R_add rfl rfl (by omega)) ?_
      rw [show ((os2[i + k] : Nat) : Int) + ((xs[i] : Nat) : Int) * ((ys.getD k 0 : Nat) : Int) + ((c : Nat) : Int) = ((os2[i + k] + xs.getD i 0 * ys.getD k 0 + c : Nat) : Int) by rw [show xs.getD i 0 = xs[i] by simp [List.getD, hi']]; push_cast; rfl]
      refine D_val rfl rfl rfl (R_assign rfl) ?_
      refine D_done ?_
      refine Q_then ?_
      refine K_seq ?_
      refine K_region ?_
      refine KV (R_move rfl) rfl ?_
      refine KV (R_move rfl) rfl ?_
      refine KV (R_move rfl) rfl ?_
      refine KV (R_add rfl rfl (by omega)) rfl ?_
      refine KV (R_move rfl) rfl ?_
      refine KV (R_rem rfl rfl (by omega)) rfl ?_
      rw [tmod10]
      refine KV (R_indexN (i := i + k) sl2133 ty3 rfl (by show some _ = some _; congr 2) (by omega)) rfl ?_
      refine K_storeE ty3 0 rfl rfl rfl rfl (by simp [digV, Value.cells]; omega) rfl (digV_put (j := i + k) (by omega) (by omega)) ?_
      refine K_nil ?_
      refine Q_then ?_
      refine K_region ?_
      refine KV (R_move rfl) rfl ?_
      refine KV (R_quo rfl rfl (by decide) (wrap10 (by omega))) rfl ?_
      refine KV (R_assign rfl) rfl ?_
      refine K_nil ?_
      refine Q_block ?_
      refine Q_then ?_
      refine K_region ?_
      refine KV (R_move rfl) rfl ?_
      refine KV (R_add rfl rfl (by omega)) rfl ?_
      refine KV (R_assign rfl) rfl ?_
      refine K_nil ?_
      refine Q_nextD (k + 1, (os2[i + k] + xs.getD i 0 * ys.getD k 0 + c) / 10, U1, os2.set (i + k) ((os2[i + k] + xs.getD i 0 * ys.getD k 0 + c) % 10)) ⟨by dsimp only; omega, hU.trans hv1, hMs⟩ (by (try dsimp only); omega) ⟨rfl, rfl, trivial⟩ rfl rfl rfl
    ·
      intro h25
      refine KV (R_move rfl) rfl ?_
      refine K_gyes rfl rfl ?_
      refine KV (R_move rfl) rfl ?_
      refine K_gyes rfl rfl ?_
      refine KV (R_cmp rfl rfl rfl) rfl ?_
      refine K_split ?_ ?_
      ·
        intro h28
        refine KV (R_pickF rfl rfl) rfl ?_
        refine K_nil ?_
        refine Q_then ?_
        refine K_ifT rfl ?_
        refine K_skip ?_
        refine Q_then ?_
        refine K_seq ?_
        refine K_block ?_
        refine K_seq ?_
        obtain ⟨hkl, hj⟩ := hM2.fits hv.2 hw.2 hi' (by omega)
        obtain ⟨hz, hMs⟩ := hM2.step hv.2 hw.2 hj
        have hz2 := hz
        rw [show xs.getD i 0 = xs[i] by simp [List.getD, hi']] at hz2
        refine K_regionD (fin := false) (R := [0, 1, 2, 3, 4, 5, 6, 7, 8, 9, 10, 11, 15, 12, 13, 14, 16, 17]) (by kernel_rfl) mixed (.cons_cons _ (List.nil_sublist _)) ?_
        refine D_val rfl rfl rfl (R_move rfl) ?_
        refine D_val rfl rfl rfl (R_move rfl) ?_
        refine D_val rfl rfl rfl (R_move rfl) ?_
        refine D_val rfl rfl rfl (R_add rfl rfl (by omega)) ?_
        refine D_val rfl rfl rfl (R_indexN (i := i + k) sl2133 ty3 rfl (by show some _ = some _; congr 2) (by omega)) ?_
        refine D_val rfl rfl rfl (R_loadC ty3 0 rfl rfl (by simp [digV, hj] : ((digV os2).toArray)[(0 + (i + k) * 1)]? = some (.int .i64 (os2[i + k] : Int)))) ?_
        refine D_val rfl rfl rfl (R_move rfl) ?_
        refine D_val rfl rfl rfl (R_move rfl) ?_
        refine D_val rfl rfl rfl (R_indexN sl2133 ty3 rfl rfl (by omega)) ?_
        refine D_val rfl rfl rfl (R_loadH ty3 rfl (hxa.mono hU) rfl (fun _ => rfl) rfl) ?_
        refine D_val rfl rfl rfl (R_move rfl) ?_
        refine D_val rfl rfl rfl (R_move rfl) ?_
        refine D_val rfl rfl rfl (R_move rfl) ?_
        refine D_call rfl rfl c2159 rfl ⟨⟨0, rfl⟩, trivial⟩ (at02_spec ys k _ U (hw.mono (hV.trans hU)) (by omega)) ?_
        rintro _ U1 hv1 rfl
        refine D_val rfl rfl rfl (R_mul rfl rfl (by have := Int.mul_nonneg (a := ((xs[i] : Nat) : Int)) (b := ((ys.getD k 0 : Nat) : Int)) (by omega) (by omega); omega)) ?_
        refine D_val rfl rfl rfl (R_add rfl rfl (by omega)) ?_
        refine D_val rfl rfl rfl (R_add rfl rfl (by omega)) ?_
        rw [show ((os2[i + k] : Nat) : Int) + ((xs[i] : Nat) : Int) * ((ys.getD k 0 : Nat) : Int) + ((c : Nat) : Int) = ((os2[i + k] + xs.getD i 0 * ys.getD k 0 + c : Nat) : Int) by rw [show xs.getD i 0 = xs[i] by simp [List.getD, hi']]; push_cast; rfl]
        refine D_val rfl rfl rfl (R_assign rfl) ?_
        refine D_done ?_
        refine Q_then ?_
        refine K_seq ?_
        refine K_region ?_
        refine KV (R_move rfl) rfl ?_
        refine KV (R_move rfl) rfl ?_
        refine KV (R_move rfl) rfl ?_
        refine KV (R_add rfl rfl (by omega)) rfl ?_
        refine KV (R_move rfl) rfl ?_
        refine KV (R_rem rfl rfl (by omega)) rfl ?_
        rw [tmod10]
        refine KV (R_indexN (i := i + k) sl2133 ty3 rfl (by show some _ = some _; congr 2) (by omega)) rfl ?_
        refine K_storeE ty3 0 rfl rfl rfl rfl (by simp [digV, Value.cells]; omega) rfl (digV_put (j := i + k) (by omega) (by omega)) ?_
        refine K_nil ?_
        refine Q_then ?_
        refine K_region ?_
        refine KV (R_move rfl) rfl ?_
        refine KV (R_quo rfl rfl (by decide) (wrap10 (by omega))) rfl ?_
        refine KV (R_assign rfl) rfl ?_
        refine K_nil ?_
        refine Q_block ?_
        refine Q_then ?_
        refine K_region ?_
        refine KV (R_move rfl) rfl ?_
        refine KV (R_add rfl rfl (by omega)) rfl ?_
        refine KV (R_assign rfl) rfl ?_
        refine K_nil ?_
        refine Q_nextD (k + 1, (os2[i + k] + xs.getD i 0 * ys.getD k 0 + c) / 10, U1, os2.set (i + k) ((os2[i + k] + xs.getD i 0 * ys.getD k 0 + c) % 10)) ⟨by dsimp only; omega, hU.trans hv1, hMs⟩ (by (try dsimp only); omega) ⟨rfl, rfl, trivial⟩ rfl rfl rfl
      ·
        intro h28
        refine KV (R_pickF rfl rfl) rfl ?_
        refine K_nil ?_
        refine Q_then ?_
        refine K_ifF rfl ?_
        refine K_exit ?_
        refine Q_then_exit ?_
        refine Q_then_exit ?_
        refine Q_block_exit ?_
        refine Q_block ?_
        refine Q_then ?_
        refine K_region ?_
        refine KV (R_move rfl) rfl ?_
        refine KV (R_add rfl rfl (by omega)) rfl ?_
        refine KV (R_assign rfl) rfl ?_
        refine K_nil ?_
        refine Q_nextD (i + 1, U, os2) ⟨hi', hV.trans hU, by have h0 : c = 0 := (by omega); subst h0; exact hM2.next (by omega)⟩ (by (try dsimp only); omega) ⟨rfl, trivial⟩ rfl rfl rfl
  ·
    have hi' : i = xs.length := by omega
    subst hi'
    refine K_exit ?_
    refine Q_then_exit ?_
    refine Q_then_exit ?_
    refine Q_block_exit ?_
    refine Q_then ?_
    refine K_seq ?_
    refine K_region ?_
    refine KV (R_move rfl) rfl ?_
    refine KO_front 0 rfl ?_
    refine KO_pubF fun U2 hU2 hb15 => ?_
    try dsimp only [List.eraseIdx]
    have hcall := trimT_spec os (some ⟨b15, 0, none⟩) (xs.length + ys.length) U2 ⟨⟨_, _, rfl, .inr ⟨b15, 0, rfl, At.of hb15⟩⟩, hM.ok⟩ (by omega) (by omega)
    rw [hol] at hcall
    refine K_call c2160 rfl rfl hcall ?_
    rintro _ V3 hv3 ⟨xa3, k3, rfl, hN⟩
    rw [hM.done] at hN
    refine KV (R_assign rfl) rfl ?_
    refine K_nil ?_
    refine Q_then ?_
    refine K_ret ?_
    refine results_gen (rs := [.tmp 4]) (vs := [_]) rfl ⟨rfl, trivial⟩ ?_
    exact hN
end Go.Proofs.X

namespace Go.Proofs.X
open Go Pal Go.Proofs
attribute [local irreducible] Pal.KO Pal.KC Pal.KQ Pal.KD
theorem ty2133 : Ty Tryz.prog T2133 false 1 := .of (by kernel_rfl)
theorem ty2134 : Ty Tryz.prog T2134 false 1 := .of (by kernel_rfl)
theorem sl2134 : slcOk Tryz.prog T2134 T2133 := by unfold slcOk; kernel_rfl
theorem sl2145 : slcOk Tryz.prog T2145 T2134 := by unfold slcOk; kernel_rfl
theorem z2133 : zeroOk Tryz.prog T2133 (.slice none 0 0) := .of (by kernel_rfl)
theorem z2134 : zeroOk Tryz.prog T2134 (.slice none 0 0) := .of (by kernel_rfl)
theorem c2151 : callable Tryz.prog F2151 = true := by kernel_rfl
theorem c2157 : callable Tryz.prog F2157 = true := by kernel_rfl
theorem c2158 : callable Tryz.prog F2158 = true := by kernel_rfl
theorem ap2134 : App Tryz.prog T2134 T2133 1 24 := .of sl2134 (by kernel_rfl)
theorem ap2145 : App Tryz.prog T2145 T2134 1 24 := .of sl2145 (by kernel_rfl)
theorem addD_spec (n m : Nat) (v w : Value) (H : View) (hv : RepD H v n) (hw : RepD H w m) (h1 : n < 10 ^ 60) (h2 : m < 10 ^ 60) : Sat Tryz.prog F2151 #[v, w] H (fun r H' => RepD H' r (n + m)) := by
  obtain ⟨xs, a1, rfl, a2⟩ := hv.words h1
  obtain ⟨ys, b1, rfl, b2⟩ := hw.words h2
  exact add02_spec xs ys v w H a1 b1 (by omega) (by omega)
theorem mulD_spec (n m : Nat) (v w : Value) (H : View) (hv : RepD H v n) (hw : RepD H w m) (h1 : n < 10 ^ 60) (h2 : m < 10 ^ 60) : Sat Tryz.prog F2158 #[v, w] H (fun r H' => RepD H' r (n * m)) := by
  obtain ⟨xs, a1, rfl, a2⟩ := hv.words h1
  obtain ⟨ys, b1, rfl, b2⟩ := hw.words h2
  exact mul02_spec xs ys v w H a1 b1 (by omega) (by omega)

set_option maxRecDepth 8000 in
set_option maxHeartbeats 4000000 in
theorem many_spec (d : Dt) (hb : d.ranks.length ≤ 1048576 ∧ d.acc.length ≤ 1048576 ∧ d.to.length ≤ 1048576 ∧ ∀ x ∈ d.to, x.length ≤ 1048576) (hok : DtOk d) (h8 : d.ranks.length ≤ 8) (hn8 : d.acc.length ≤ 8) (size : Nat) (h12 : size ≤ 12) (v1 v2 v3 : Value) (H : View) (hd : RepDt H d v1 v2 v3) : Sat Tryz.prog F2150 #[.agg #[v1, v2, v3], .int .i64 (size : Int)] H (fun r H' => LvAt H' d.acc.length (fun q => cD d size (q : Int)) r) := by
  obtain ⟨ua1, uc1x, rfl⟩ := hd.r.shape
  obtain ⟨ua2, uc2x, rfl⟩ := hd.a.shape
  obtain ⟨ua3, uc3x, rfl⟩ := hd.t.shape
  have hN1 := hok.n
  refine enterO (n := 180) (args := [.agg #[.slice ua1 d.ranks.length uc1x, .slice ua2 d.acc.length uc2x, .slice ua3 d.to.length uc3x], .int .i64 (size : Int)]) Tryz.func9 rfl rfl rfl fun w0 => ?_
  refine K_seq ?_
  refine K_region ?_
  refine KA (A_box rfl) rfl fun b2 => ?_
  refine KV (R_assign rfl) rfl ?_
  refine K_nil ?_
  refine Q_then ?_
  refine K_seq ?_
  refine K_region ?_
  refine KV (R_fieldAddr 1 fd2129_1 rfl) rfl ?_
  refine KV (R_loadO ty52 0 rfl rfl rfl rfl (fun _ => rfl) rfl) rfl ?_
  refine KV (R_len sl52 rfl) rfl ?_
  refine KV (R_assign rfl) rfl ?_
  refine K_nil ?_
  refine Q_then ?_
  refine K_seq ?_
  refine K_region ?_
  refine KV (R_move rfl) rfl ?_
  refine KA (A_makeSlice (k := d.acc.length) ap2134 z2133 ty2133 rfl rfl (by omega) (by omega)) rfl fun b19 => ?_
  refine KA (A_buildSlice (vs := [.slice (some ⟨b19, 0, none⟩) d.acc.length d.acc.length]) sl2145 ty2134 z2134 rfl rfl (by simp [Value.cells]) (by simp) rfl (by decide)) rfl fun b20 => ?_
  refine KV (R_assign rfl) rfl ?_
  refine K_nil ?_
  rw [row_made]
  refine KQ_front 1 rfl ?_
  refine KQ_pubF fun Va hva hb19 => ?_
  refine KQ_front 0 rfl ?_
  refine KQ_shutRow (k := 1) (cap := 1) (sz := 1) (by omega) (by simp [maxLen]) rfl rfl rfl ?_
  have hL0 : Levels Va d [.slice (some ⟨b19, 0, none⟩) d.acc.length d.acc.length] := Levels.one ⟨b19, 0, _, _, rfl, At.of hb19, DecRow.zero _ _⟩
  refine Q_then ?_
  refine K_seq ?_
  refine K_seq ?_
  refine K_region ?_
  refine KV (R_assign rfl) rfl ?_
  refine K_nil ?_
  refine Q_then ?_
  refine K_block ?_
  refine K_loopD (G := Nat × View × Nat × Nat × List Value) [6, 7, 8, 9, 10, 11, 12, 13, 14, 21, 22, 23, 24, 25, 26, 27, 28, 29, 30, 31, 32, 33, 34, 35, 36, 37, 38, 39, 40, 41, 42, 43, 44, 45, 46, 47, 48, 49, 50, 51, 52, 53, 54, 55, 56, 57, 58, 59, 60, 61, 62, 63, 64, 65, 66, 67, 68, 69, 70, 71, 72, 73, 74, 75, 76, 77, 78, 79, 80, 81, 82, 83, 84, 85, 86, 87, 88, 89, 90, 91, 92, 93, 94, 95, 96, 97, 98, 99, 100, 101, 102, 103, 104, 105, 106, 107, 108, 109, 110, 111, 112, 113, 114, 115, 116, 117, 118, 119, 120, 121, 122, 123, 124, 125, 126, 127, 128, 129, 130, 131, 132, 133, 134, 135, 136, 137, 138, 139, 140, 141, 142, 143, 144, 145, 146, 147, 148, 149, 150, 151, 152, 153, 154, 155, 156, 157, 158, 159, 160, 161, 162, 163, 164, 165, 166, 167, 168, 169, 170, 171, 172, 173, 174] (fun g => [(7, .int .i64 (g.1 : Int)), (6, .slice (some ⟨g.2.2.1, 0, none⟩) g.1 g.2.2.2.1)]) (fun hl g => (hl.set 0 (row (.slice (some ⟨g.2.2.1, 0, none⟩) g.1 g.2.2.2.1) T2134 1 g.1 g.2.2.2.2))) (fun g => g.2.1) (fun g => (1 ≤ g.1 ∧ g.1 ≤ size + 1) ∧ (VLe H g.2.1) ∧ (g.2.2.2.2.length = g.1) ∧ (Levels g.2.1 d g.2.2.2.2)) (fun g => size + 1 - g.1) (1, Va, b20, 1, [.slice (some ⟨b19, 0, none⟩) d.acc.length d.acc.length]) ⟨⟨Nat.le_refl _, by dsimp only; omega⟩, hva, rfl, hL0⟩ ⟨rfl, rfl, trivial⟩ (by simp only [args0, Nat.reduceAdd, del, memN, beqN, Nat.reduceBEq, cond_true, cond_false]; rfl) rfl rfl ?_
  rintro ⟨k, V, sb, sc, cells⟩ ⟨hk, hV, hcl, hL⟩
  dsimp only at hk hV hcl hL
  dsimp only [List.set, List.cons_append, List.nil_append]
  refine K_seq ?_
  refine K_seq ?_
  refine K_region ?_
  refine KV (R_move rfl) rfl ?_
  refine KV (R_move rfl) rfl ?_
  refine KV (R_cmp rfl rfl rfl) rfl ?_
  refine K_nil ?_
  refine Q_then ?_
  refine K_if rfl (fun h23 => ?_) (fun h23 => ?_)
  ·
    have hk2 : k ≤ size := by omega
    refine K_skip ?_
    refine Q_then ?_
    refine K_seq ?_
    refine K_block ?_
    refine K_seq ?_
    refine K_region ?_
    refine KV (R_move rfl) rfl ?_
    refine KA (A_makeSlice (k := d.acc.length) ap2134 z2133 ty2133 rfl rfl (by omega) (by omega)) rfl fun b27 => ?_
    refine KV (R_assign rfl) rfl ?_
    refine K_nil ?_
    rw [row_made]
    refine Q_then ?_
    refine K_seq ?_
    refine K_seq ?_
    refine K_region ?_
    refine KV (R_assign rfl) rfl ?_
    refine K_nil ?_
    refine Q_then ?_
    refine K_block ?_
    refine K_loopD (G := Nat × View × List Value) [9, 10, 11, 12, 13, 14, 28, 29, 30, 31, 32, 33, 34, 35, 36, 37, 38, 39, 40, 41, 42, 43, 44, 45, 46, 47, 48, 49, 50, 51, 52, 53, 54, 55, 56, 57, 58, 59, 60, 61, 62, 63, 64, 65, 66, 67, 68, 69, 70, 71, 72, 73, 74, 75, 76, 77, 78, 79, 80, 81, 82, 83, 84, 85, 86, 87, 88, 89, 90, 91, 92, 93, 94, 95, 96, 97, 98, 99, 100, 101, 102, 103, 104, 105, 106, 107, 108, 109, 110, 111, 112, 113, 114, 115, 116, 117, 118, 119, 120, 121, 122, 123, 124, 125, 126, 127, 128, 129, 130, 131, 132, 133, 134, 135, 136, 137, 138, 139, 140, 141, 142, 143, 144, 145, 146, 147, 148, 149, 150, 151, 152, 153, 154, 155, 156, 157, 158, 159, 160, 161, 162, 163, 164, 165, 166, 167, 168, 169, 170] (fun g => [(9, .int .i64 (g.1 : Int))]) (fun hl g => (hl.set 0 (blk b27 (.cells g.2.2.toArray T2133 (0, 0))))) (fun g => g.2.1) (fun g => (g.1 ≤ d.ranks.length) ∧ (VLe V g.2.1) ∧ (DecRow g.2.1 d.acc.length (fun q => partD d k g.1 (q : Int)) g.2.2)) (fun g => d.ranks.length - g.1) (0, V, List.replicate d.acc.length nilD) ⟨Nat.zero_le _, VLe.refl _, (DecRow.zero V _).congr fun q _ => rfl⟩ ⟨rfl, trivial⟩ (by simp only [args0, Nat.reduceAdd, del, memN, beqN, Nat.reduceBEq, cond_true, cond_false]; rfl) rfl rfl ?_
    rintro ⟨s, V2, cs⟩ ⟨hs, hV2, hR2⟩
    dsimp only at hs hV2 hR2
    dsimp only [List.set, List.cons_append, List.nil_append]
    refine K_seq ?_
    refine K_seq ?_
    refine K_region ?_
    refine KV (R_move rfl) rfl ?_
    refine KV (R_fieldAddr 0 fd2129_0 rfl) rfl ?_
    refine KV (R_loadO ty25 2 rfl rfl rfl rfl (fun _ => rfl) rfl) rfl ?_
    refine KV (R_len sl25 rfl) rfl ?_
    refine KV (R_cmp rfl rfl rfl) rfl ?_
    refine K_nil ?_
    refine Q_then ?_
    refine K_if rfl (fun h32 => ?_) (fun h32 => ?_)
    ·
      have hs' : s < d.ranks.length := by omega
      have hrk := (ranksErr_ok hok.rk).2 s hs'
      have hr3 : d.ranks[s] = 0 ∨ d.ranks[s] = 1 ∨ d.ranks[s] = 2 := by omega
      refine K_skip ?_
      refine Q_then ?_
      refine K_seq ?_
      refine K_block ?_
      refine K_seq ?_
      refine K_seq ?_
      rcases hr3 with h0 | h0 | h0
      ·
        obtain ⟨rb, ro, hre, rA⟩ := (hd.mono (hV.trans hV2)).r.get hs'
        cases hre
        have hge : d.ranks.getD s 0 = d.ranks[s] := by simp [List.getD, hs']
        refine K_region ?_
        refine KV (R_fieldAddr 0 fd2129_0 rfl) rfl ?_
        refine KV (R_loadO ty25 2 rfl rfl rfl rfl (fun _ => rfl) rfl) rfl ?_
        refine KV (R_move rfl) rfl ?_
        refine KV (R_indexN sl25 ty3 rfl rfl (by omega)) rfl ?_
        refine KV (R_loadH ty3 rfl (rA) rfl (fun _ => rfl) rfl) rfl ?_
        refine KV (R_cmp rfl rfl rfl) rfl ?_
        refine K_split ?_ ?_
        ·
          intro h40
          refine KV (R_move rfl) rfl ?_
          refine K_gyes rfl rfl ?_
          refine KV (R_move rfl) rfl ?_
          refine K_gyes rfl rfl ?_
          refine KV (R_cmp rfl rfl rfl) rfl ?_
          refine K_split ?_ ?_
          ·
            intro h43
            refine KV (R_pickT rfl rfl) rfl ?_
            refine K_nil ?_
            refine Q_then ?_
            refine K_ifT rfl ?_
            obtain ⟨t1, t2, te, tr⟩ := at_zero hok hs' (by omega)
            obtain ⟨tb, to_, ea, ecp, hte, tA, tE⟩ := (hd.mono (hV.trans hV2)).t.get t1
            cases hte
            obtain ⟨ub, uo, hue, tB⟩ := tE.get t2
            cases hue
            rw [← te] at tB
            have hq : (atM d (s : Int) []).toNat < cs.length := by rw [hR2.len]; omega
            have hk1 : k = 1 := by omega
            refine K_regionD (fin := true) (R := [0, 1, 2, 3, 4, 5, 6, 7, 8, 9, 10, 11, 12, 13, 14, 15, 16, 17, 18, 19, 20, 21]) (by kernel_rfl) mixed (.cons_cons _ (.cons_cons _ (.cons_cons _ (List.nil_sublist _)))) ?_
            refine D_val rfl rfl rfl (R_move rfl) ?_
            refine D_val rfl rfl rfl (R_fieldAddr 2 fd2129_2 rfl) ?_
            refine D_val rfl rfl rfl (R_loadO ty44 2 rfl rfl rfl rfl (fun _ => rfl) rfl) ?_
            refine D_val rfl rfl rfl (R_move rfl) ?_
            refine D_val rfl rfl rfl (R_indexN sl44 ty25 rfl rfl (by omega)) ?_
            refine D_val rfl rfl rfl (R_loadH ty25 rfl (tA) rfl (fun _ => rfl) rfl) ?_
            refine D_val rfl rfl rfl (R_indexN sl25 ty3 rfl rfl (by omega)) ?_
            refine D_val rfl rfl rfl (R_loadH ty3 rfl (tB) rfl (fun _ => rfl) rfl) ?_
            refine D_val rfl rfl rfl (R_move rfl) ?_
            refine D_val rfl rfl rfl (R_fieldAddr 2 fd2129_2 rfl) ?_
            refine D_val rfl rfl rfl (R_loadO ty44 2 rfl rfl rfl rfl (fun _ => rfl) rfl) ?_
            refine D_val rfl rfl rfl (R_move rfl) ?_
            refine D_val rfl rfl rfl (R_indexN sl44 ty25 rfl rfl (by omega)) ?_
            refine D_val rfl rfl rfl (R_loadH ty25 rfl (tA) rfl (fun _ => rfl) rfl) ?_
            refine D_val rfl rfl rfl (R_indexN sl25 ty3 rfl rfl (by omega)) ?_
            refine D_val rfl rfl rfl (R_loadH ty3 rfl (tB) rfl (fun _ => rfl) rfl) ?_
            refine D_val rfl rfl rfl (R_index sl2134 ty2133 rfl rfl ⟨by omega, by omega⟩) ?_
            refine D_val rfl rfl rfl (R_loadC ty2133 0 rfl rfl (by simp [hq] : (cs.toArray)[0 + (atM d (s : Int) []).toNat * 1]? = some cs[(atM d (s : Int) []).toNat])) ?_
            refine D_call rfl rfl c2157 rfl ⟨⟨0, rfl⟩, ⟨1, rfl⟩, ⟨2, rfl⟩, trivial⟩ (of1_spec V2) ?_
            rintro w63 Y1 hv1 h63
            refine D_call rfl rfl c2151 rfl ⟨⟨0, rfl⟩, ⟨1, rfl⟩, ⟨2, rfl⟩, trivial⟩ (addD_spec _ 1 _ _ Y1 ((hR2.at_ _ hq).mono hv1) h63 (small60 (by omega) (partD_bound h8 hn8 (by omega) (by omega) _)) (by decide)) ?_
            rintro w64 Y2 hv2 hw1
            obtain ⟨wa, wk, wc, rfl⟩ := hw1.shape
            refine D_val rfl rfl rfl (R_index sl2134 ty2133 rfl rfl ⟨by omega, by omega⟩) ?_
            refine D_lastStoreE ty2133 0 rfl rfl rfl rfl rfl rfl (by simp [Value.cells]; omega) rfl (row_put (j := (atM d (s : Int) []).toNat) hq (by omega)) ?_
            have hVs := (hV2.trans hv1).trans hv2
            have hWs := hv1.trans hv2
            have hRs : DecRow _ d.acc.length (fun q => m1 d k s 0 q) _ := ((hR2.mono hv1).mono hv2).put hw1 fun q => by rw [m1_leaf (by omega) (by omega), if_toNat tr.1]
            refine Q_then ?_
            refine K_seq ?_
            refine K_seq ?_
            refine K_region ?_
            refine KV (R_assign rfl) rfl ?_
            refine K_nil ?_
            refine Q_then ?_
            refine K_block ?_
            refine K_loopD (G := Nat × View × List Value) [10, 66, 67, 68, 69, 70, 71, 72, 73, 74, 75, 76, 77, 78, 79, 80, 81, 82, 83, 84, 85, 86, 87, 88, 89, 90, 91, 92, 93, 94, 95, 96, 97, 98, 99, 100, 101, 102, 103, 104, 105, 106, 107, 108] (fun g => [(10, .int .i64 (g.1 : Int))]) (fun hl g => (hl.set 0 (blk b27 (.cells g.2.2.toArray T2133 (0, 0))))) (fun g => g.2.1) (fun g => (g.1 ≤ d.acc.length) ∧ (g.1 = 0 ∨ d.ranks[s] = 1) ∧ (VLe V g.2.1) ∧ (VLe V2 g.2.1) ∧ (DecRow g.2.1 d.acc.length (fun q => m1 d k s g.1 q) g.2.2)) (fun g => d.acc.length - g.1) (0, _, _) ⟨Nat.zero_le _, .inl rfl, hVs, hWs, hRs⟩ ⟨rfl, trivial⟩ (by simp only [args0, Nat.reduceAdd, del, memN, beqN, Nat.reduceBEq, cond_true, cond_false]; rfl) rfl rfl ?_
            rintro ⟨x, V3, cs3⟩ ⟨hx, hx0, hV3, hW3, hR3⟩
            dsimp only at hx hx0 hV3 hW3 hR3
            dsimp only [List.set, List.cons_append, List.nil_append]
            refine K_seq ?_
            refine K_seq ?_
            refine K_region ?_
            refine KV (R_move rfl) rfl ?_
            refine KV (R_move rfl) rfl ?_
            refine KV (R_cmp rfl rfl rfl) rfl ?_
            refine K_split ?_ ?_
            ·
              intro h68
              refine KV (R_move rfl) rfl ?_
              refine K_gyes rfl rfl ?_
              refine KV (R_fieldAddr 0 fd2129_0 rfl) rfl ?_
              refine K_gyes rfl rfl ?_
              refine KV (R_loadO ty25 2 rfl rfl rfl rfl (fun _ => rfl) rfl) rfl ?_
              refine K_gyes rfl rfl ?_
              refine KV (R_move rfl) rfl ?_
              refine K_gyes rfl rfl ?_
              refine KV (R_indexN sl25 ty3 rfl rfl (by omega)) rfl ?_
              refine K_gyes rfl rfl ?_
              refine KV (R_loadH ty3 rfl (rA.mono hW3) rfl (fun _ => rfl) rfl) rfl ?_
              refine K_gyes rfl rfl ?_
              refine KV (R_cmp rfl rfl rfl) rfl ?_
              refine K_split ?_ ?_
              ·
                intro h75
                exact absurd h75 (by omega)
              ·
                intro h75
                obtain rfl : x = 0 := by omega
                have hRs := hR3.congr (g := fun q => m2 d k s 0 q) fun q _ => m2_of0 (by omega) q
                refine KV (R_pickT rfl rfl) rfl ?_
                refine K_nil ?_
                refine Q_then ?_
                refine K_ifF rfl ?_
                refine K_exit ?_
                refine Q_then_exit ?_
                refine Q_then_exit ?_
                refine Q_block_exit ?_
                refine Q_then ?_
                refine K_seq ?_
                refine K_region ?_
                refine KV (R_assign rfl) rfl ?_
                refine K_nil ?_
                refine Q_then ?_
                refine K_block ?_
                refine K_loopD (G := Nat × View × List Value) [11, 12, 13, 14, 109, 110, 111, 112, 113, 114, 115, 116, 117, 118, 119, 120, 121, 122, 123, 124, 125, 126, 127, 128, 129, 130, 131, 132, 133, 134, 135, 136, 137, 138, 139, 140, 141, 142, 143, 144, 145, 146, 147, 148, 149, 150, 151, 152, 153, 154, 155, 156, 157, 158, 159, 160, 161, 162, 163, 164, 165, 166, 167, 168, 169, 170] (fun g => [(11, .int .i64 ((g.1 + 1 : Nat) : Int))]) (fun hl g => (hl.set 0 (blk b27 (.cells g.2.2.toArray T2133 (0, 0))))) (fun g => g.2.1) (fun g => (g.1 ≤ k - 2) ∧ (g.1 = 0 ∨ d.ranks[s] = 2) ∧ (VLe V g.2.1) ∧ (VLe V2 g.2.1) ∧ (DecRow g.2.1 d.acc.length (fun q => m2 d k s g.1 q) g.2.2)) (fun g => k - g.1) (0, _, _) ⟨Nat.zero_le _, .inl rfl, hV3, hW3, hRs⟩ ⟨rfl, trivial⟩ (by simp only [args0, Nat.reduceAdd, del, memN, beqN, Nat.reduceBEq, cond_true, cond_false]; rfl) rfl rfl ?_
                rintro ⟨j, V4, cs4⟩ ⟨hj, hj0, hV4, hW4, hR4⟩
                dsimp only at hj hj0 hV4 hW4 hR4
                dsimp only [List.set, List.cons_append, List.nil_append]
                refine K_seq ?_
                refine K_seq ?_
                refine K_region ?_
                refine KV (R_move rfl) rfl ?_
                refine KV (R_move rfl) rfl ?_
                refine KV (R_sub rfl rfl (by omega)) rfl ?_
                refine KV (R_cmp rfl rfl rfl) rfl ?_
                refine K_split ?_ ?_
                ·
                  intro h112
                  refine KV (R_move rfl) rfl ?_
                  refine K_gyes rfl rfl ?_
                  refine KV (R_fieldAddr 0 fd2129_0 rfl) rfl ?_
                  refine K_gyes rfl rfl ?_
                  refine KV (R_loadO ty25 2 rfl rfl rfl rfl (fun _ => rfl) rfl) rfl ?_
                  refine K_gyes rfl rfl ?_
                  refine KV (R_move rfl) rfl ?_
                  refine K_gyes rfl rfl ?_
                  refine KV (R_indexN sl25 ty3 rfl rfl (by omega)) rfl ?_
                  refine K_gyes rfl rfl ?_
                  refine KV (R_loadH ty3 rfl (rA.mono hW4) rfl (fun _ => rfl) rfl) rfl ?_
                  refine K_gyes rfl rfl ?_
                  refine KV (R_cmp rfl rfl rfl) rfl ?_
                  refine K_split ?_ ?_
                  ·
                    intro h119
                    exact absurd h119 (by omega)
                  ·
                    intro h119
                    obtain rfl : j = 0 := by omega
                    have hRn := hR4.congr (g := fun q => partD d k (s + 1) (q : Int)) fun q _ => m_end0 (by omega) (by omega) q
                    refine KV (R_pickT rfl rfl) rfl ?_
                    refine K_nil ?_
                    refine Q_then ?_
                    refine K_ifF rfl ?_
                    refine K_exit ?_
                    refine Q_then_exit ?_
                    refine Q_then_exit ?_
                    refine Q_block_exit ?_
                    refine Q_block ?_
                    refine Q_then ?_
                    refine K_region ?_
                    refine KV (R_move rfl) rfl ?_
                    refine KV (R_add rfl rfl (by omega)) rfl ?_
                    refine KV (R_assign rfl) rfl ?_
                    refine K_nil ?_
                    refine Q_nextD (s + 1, V4, cs4) ⟨hs', hV4, hRn⟩ (by (try dsimp only); omega) ⟨rfl, trivial⟩ rfl rfl rfl
                ·
                  intro h112
                  obtain rfl : j = 0 := by omega
                  have hRn := hR4.congr (g := fun q => partD d k (s + 1) (q : Int)) fun q _ => m_end0 (by omega) (by omega) q
                  refine KV (R_move rfl) rfl ?_
                  refine K_gno rfl rfl rfl rfl ?_
                  refine K_gno rfl rfl rfl rfl ?_
                  refine K_gno rfl rfl rfl rfl ?_
                  refine K_gno rfl rfl rfl rfl ?_
                  refine K_gno rfl rfl rfl rfl ?_
                  refine K_gno rfl rfl rfl rfl ?_
                  refine KV (R_pickF rfl rfl) rfl ?_
                  refine K_nil ?_
                  refine Q_then ?_
                  refine K_ifF rfl ?_
                  refine K_exit ?_
                  refine Q_then_exit ?_
                  refine Q_then_exit ?_
                  refine Q_block_exit ?_
                  refine Q_block ?_
                  refine Q_then ?_
                  refine K_region ?_
                  refine KV (R_move rfl) rfl ?_
                  refine KV (R_add rfl rfl (by omega)) rfl ?_
                  refine KV (R_assign rfl) rfl ?_
                  refine K_nil ?_
                  refine Q_nextD (s + 1, V4, cs4) ⟨hs', hV4, hRn⟩ (by (try dsimp only); omega) ⟨rfl, trivial⟩ rfl rfl rfl
            ·
              intro h68
              exact absurd (by omega) h68
          ·
            intro h43
            have hVs := hV2
            have hWs := VLe.refl V2
            have hRs := hR2.congr (g := fun q => m1 d k s 0 q) fun q _ => m1_skip (fun h => by omega) q
            refine KV (R_pickT rfl rfl) rfl ?_
            refine K_nil ?_
            refine Q_then ?_
            refine K_ifF rfl ?_
            refine K_skip ?_
            refine Q_then ?_
            refine K_seq ?_
            refine K_seq ?_
            refine K_region ?_
            refine KV (R_assign rfl) rfl ?_
            refine K_nil ?_
            refine Q_then ?_
            refine K_block ?_
            refine K_loopD (G := Nat × View × List Value) [10, 66, 67, 68, 69, 70, 71, 72, 73, 74, 75, 76, 77, 78, 79, 80, 81, 82, 83, 84, 85, 86, 87, 88, 89, 90, 91, 92, 93, 94, 95, 96, 97, 98, 99, 100, 101, 102, 103, 104, 105, 106, 107, 108] (fun g => [(10, .int .i64 (g.1 : Int))]) (fun hl g => (hl.set 0 (blk b27 (.cells g.2.2.toArray T2133 (0, 0))))) (fun g => g.2.1) (fun g => (g.1 ≤ d.acc.length) ∧ (g.1 = 0 ∨ d.ranks[s] = 1) ∧ (VLe V g.2.1) ∧ (VLe V2 g.2.1) ∧ (DecRow g.2.1 d.acc.length (fun q => m1 d k s g.1 q) g.2.2)) (fun g => d.acc.length - g.1) (0, _, _) ⟨Nat.zero_le _, .inl rfl, hVs, hWs, hRs⟩ ⟨rfl, trivial⟩ (by simp only [args0, Nat.reduceAdd, del, memN, beqN, Nat.reduceBEq, cond_true, cond_false]; rfl) rfl rfl ?_
            rintro ⟨x, V3, cs3⟩ ⟨hx, hx0, hV3, hW3, hR3⟩
            dsimp only at hx hx0 hV3 hW3 hR3
            dsimp only [List.set, List.cons_append, List.nil_append]
            refine K_seq ?_
            refine K_seq ?_
            refine K_region ?_
            refine KV (R_move rfl) rfl ?_
            refine KV (R_move rfl) rfl ?_
            refine KV (R_cmp rfl rfl rfl) rfl ?_
            refine K_split ?_ ?_
            ·
              intro h68
              refine KV (R_move rfl) rfl ?_
              refine K_gyes rfl rfl ?_
              refine KV (R_fieldAddr 0 fd2129_0 rfl) rfl ?_
              refine K_gyes rfl rfl ?_
              refine KV (R_loadO ty25 2 rfl rfl rfl rfl (fun _ => rfl) rfl) rfl ?_
              refine K_gyes rfl rfl ?_
              refine KV (R_move rfl) rfl ?_
              refine K_gyes rfl rfl ?_
              refine KV (R_indexN sl25 ty3 rfl rfl (by omega)) rfl ?_
              refine K_gyes rfl rfl ?_
              refine KV (R_loadH ty3 rfl (rA.mono hW3) rfl (fun _ => rfl) rfl) rfl ?_
              refine K_gyes rfl rfl ?_
              refine KV (R_cmp rfl rfl rfl) rfl ?_
              refine K_split ?_ ?_
              ·
                intro h75
                exact absurd h75 (by omega)
              ·
                intro h75
                obtain rfl : x = 0 := by omega
                have hRs := hR3.congr (g := fun q => m2 d k s 0 q) fun q _ => m2_of0 (by omega) q
                refine KV (R_pickT rfl rfl) rfl ?_
                refine K_nil ?_
                refine Q_then ?_
                refine K_ifF rfl ?_
                refine K_exit ?_
                refine Q_then_exit ?_
                refine Q_then_exit ?_
                refine Q_block_exit ?_
                refine Q_then ?_
                refine K_seq ?_
                refine K_region ?_
                refine KV (R_assign rfl) rfl ?_
                refine K_nil ?_
                refine Q_then ?_
                refine K_block ?_
                refine K_loopD (G := Nat × View × List Value) [11, 12, 13, 14, 109, 110, 111, 112, 113, 114, 115, 116, 117, 118, 119, 120, 121, 122, 123, 124, 125, 126, 127, 128, 129, 130, 131, 132, 133, 134, 135, 136, 137, 138, 139, 140, 141, 142, 143, 144, 145, 146, 147, 148, 149, 150, 151, 152, 153, 154, 155, 156, 157, 158, 159, 160, 161, 162, 163, 164, 165, 166, 167, 168, 169, 170] (fun g => [(11, .int .i64 ((g.1 + 1 : Nat) : Int))]) (fun hl g => (hl.set 0 (blk b27 (.cells g.2.2.toArray T2133 (0, 0))))) (fun g => g.2.1) (fun g => (g.1 ≤ k - 2) ∧ (g.1 = 0 ∨ d.ranks[s] = 2) ∧ (VLe V g.2.1) ∧ (VLe V2 g.2.1) ∧ (DecRow g.2.1 d.acc.length (fun q => m2 d k s g.1 q) g.2.2)) (fun g => k - g.1) (0, _, _) ⟨Nat.zero_le _, .inl rfl, hV3, hW3, hRs⟩ ⟨rfl, trivial⟩ (by simp only [args0, Nat.reduceAdd, del, memN, beqN, Nat.reduceBEq, cond_true, cond_false]; rfl) rfl rfl ?_
                rintro ⟨j, V4, cs4⟩ ⟨hj, hj0, hV4, hW4, hR4⟩
                dsimp only at hj hj0 hV4 hW4 hR4
                dsimp only [List.set, List.cons_append, List.nil_append]
                refine K_seq ?_
                refine K_seq ?_
                refine K_region ?_
                refine KV (R_move rfl) rfl ?_
                refine KV (R_move rfl) rfl ?_
                refine KV (R_sub rfl rfl (by omega)) rfl ?_
                refine KV (R_cmp rfl rfl rfl) rfl ?_
                refine K_split ?_ ?_
                ·
                  intro h112
                  refine KV (R_move rfl) rfl ?_
                  refine K_gyes rfl rfl ?_
                  refine KV (R_fieldAddr 0 fd2129_0 rfl) rfl ?_
                  refine K_gyes rfl rfl ?_
                  refine KV (R_loadO ty25 2 rfl rfl rfl rfl (fun _ => rfl) rfl) rfl ?_
                  refine K_gyes rfl rfl ?_
                  refine KV (R_move rfl) rfl ?_
                  refine K_gyes rfl rfl ?_
                  refine KV (R_indexN sl25 ty3 rfl rfl (by omega)) rfl ?_
                  refine K_gyes rfl rfl ?_
                  refine KV (R_loadH ty3 rfl (rA.mono hW4) rfl (fun _ => rfl) rfl) rfl ?_
                  refine K_gyes rfl rfl ?_
                  refine KV (R_cmp rfl rfl rfl) rfl ?_
                  refine K_split ?_ ?_
                  ·
                    intro h119
                    exact absurd h119 (by omega)
                  ·
                    intro h119
                    obtain rfl : j = 0 := by omega
                    have hRn := hR4.congr (g := fun q => partD d k (s + 1) (q : Int)) fun q _ => m_end0 (by omega) (by omega) q
                    refine KV (R_pickT rfl rfl) rfl ?_
                    refine K_nil ?_
                    refine Q_then ?_
                    refine K_ifF rfl ?_
                    refine K_exit ?_
                    refine Q_then_exit ?_
                    refine Q_then_exit ?_
                    refine Q_block_exit ?_
                    refine Q_block ?_
                    refine Q_then ?_
                    refine K_region ?_
                    refine KV (R_move rfl) rfl ?_
                    refine KV (R_add rfl rfl (by omega)) rfl ?_
                    refine KV (R_assign rfl) rfl ?_
                    refine K_nil ?_
                    refine Q_nextD (s + 1, V4, cs4) ⟨hs', hV4, hRn⟩ (by (try dsimp only); omega) ⟨rfl, trivial⟩ rfl rfl rfl
                ·
                  intro h112
                  obtain rfl : j = 0 := by omega
                  have hRn := hR4.congr (g := fun q => partD d k (s + 1) (q : Int)) fun q _ => m_end0 (by omega) (by omega) q
                  refine KV (R_move rfl) rfl ?_
                  refine K_gno rfl rfl rfl rfl ?_
                  refine K_gno rfl rfl rfl rfl ?_
                  refine K_gno rfl rfl rfl rfl ?_
                  refine K_gno rfl rfl rfl rfl ?_
                  refine K_gno rfl rfl rfl rfl ?_
                  refine K_gno rfl rfl rfl rfl ?_
                  refine KV (R_pickF rfl rfl) rfl ?_
                  refine K_nil ?_
                  refine Q_then ?_
                  refine K_ifF rfl ?_
                  refine K_exit ?_
                  refine Q_then_exit ?_
                  refine Q_then_exit ?_
                  refine Q_block_exit ?_
                  refine Q_block ?_
                  refine Q_then ?_
                  refine K_region ?_
                  refine KV (R_move rfl) rfl ?_
                  refine KV (R_add rfl rfl (by omega)) rfl ?_
                  refine KV (R_assign rfl) rfl ?_
                  refine K_nil ?_
                  refine Q_nextD (s + 1, V4, cs4) ⟨hs', hV4, hRn⟩ (by (try dsimp only); omega) ⟨rfl, trivial⟩ rfl rfl rfl
            ·
              intro h68
              exact absurd (by omega) h68
        ·
          intro h40
          exact absurd (by omega) h40
      ·
        obtain ⟨rb, ro, hre, rA⟩ := (hd.mono (hV.trans hV2)).r.get hs'
        cases hre
        have hge : d.ranks.getD s 0 = d.ranks[s] := by simp [List.getD, hs']
        refine K_region ?_
        refine KV (R_fieldAddr 0 fd2129_0 rfl) rfl ?_
        refine KV (R_loadO ty25 2 rfl rfl rfl rfl (fun _ => rfl) rfl) rfl ?_
        refine KV (R_move rfl) rfl ?_
        refine KV (R_indexN sl25 ty3 rfl rfl (by omega)) rfl ?_
        refine KV (R_loadH ty3 rfl (rA) rfl (fun _ => rfl) rfl) rfl ?_
        refine KV (R_cmp rfl rfl rfl) rfl ?_
        refine K_split ?_ ?_
        ·
          intro h40
          exact absurd h40 (by omega)
        ·
          intro h40
          have hVs := hV2
          have hWs := VLe.refl V2
          have hRs := hR2.congr (g := fun q => m1 d k s 0 q) fun q _ => m1_skip (fun h => by omega) q
          refine KV (R_move rfl) rfl ?_
          refine K_gno rfl rfl rfl rfl ?_
          refine K_gno rfl rfl rfl rfl ?_
          refine KV (R_pickF rfl rfl) rfl ?_
          refine K_nil ?_
          refine Q_then ?_
          refine K_ifF rfl ?_
          refine K_skip ?_
          refine Q_then ?_
          refine K_seq ?_
          refine K_seq ?_
          refine K_region ?_
          refine KV (R_assign rfl) rfl ?_
          refine K_nil ?_
          refine Q_then ?_
          refine K_block ?_
          refine K_loopD (G := Nat × View × List Value) [10, 66, 67, 68, 69, 70, 71, 72, 73, 74, 75, 76, 77, 78, 79, 80, 81, 82, 83, 84, 85, 86, 87, 88, 89, 90, 91, 92, 93, 94, 95, 96, 97, 98, 99, 100, 101, 102, 103, 104, 105, 106, 107, 108] (fun g => [(10, .int .i64 (g.1 : Int))]) (fun hl g => (hl.set 0 (blk b27 (.cells g.2.2.toArray T2133 (0, 0))))) (fun g => g.2.1) (fun g => (g.1 ≤ d.acc.length) ∧ (g.1 = 0 ∨ d.ranks[s] = 1) ∧ (VLe V g.2.1) ∧ (VLe V2 g.2.1) ∧ (DecRow g.2.1 d.acc.length (fun q => m1 d k s g.1 q) g.2.2)) (fun g => d.acc.length - g.1) (0, _, _) ⟨Nat.zero_le _, .inl rfl, hVs, hWs, hRs⟩ ⟨rfl, trivial⟩ (by simp only [args0, Nat.reduceAdd, del, memN, beqN, Nat.reduceBEq, cond_true, cond_false]; rfl) rfl rfl ?_
          rintro ⟨x, V3, cs3⟩ ⟨hx, hx0, hV3, hW3, hR3⟩
          dsimp only at hx hx0 hV3 hW3 hR3
          dsimp only [List.set, List.cons_append, List.nil_append]
          refine K_seq ?_
          refine K_seq ?_
          refine K_region ?_
          refine KV (R_move rfl) rfl ?_
          refine KV (R_move rfl) rfl ?_
          refine KV (R_cmp rfl rfl rfl) rfl ?_
          refine K_split ?_ ?_
          ·
            intro h68
            refine KV (R_move rfl) rfl ?_
            refine K_gyes rfl rfl ?_
            refine KV (R_fieldAddr 0 fd2129_0 rfl) rfl ?_
            refine K_gyes rfl rfl ?_
            refine KV (R_loadO ty25 2 rfl rfl rfl rfl (fun _ => rfl) rfl) rfl ?_
            refine K_gyes rfl rfl ?_
            refine KV (R_move rfl) rfl ?_
            refine K_gyes rfl rfl ?_
            refine KV (R_indexN sl25 ty3 rfl rfl (by omega)) rfl ?_
            refine K_gyes rfl rfl ?_
            refine KV (R_loadH ty3 rfl (rA.mono hW3) rfl (fun _ => rfl) rfl) rfl ?_
            refine K_gyes rfl rfl ?_
            refine KV (R_cmp rfl rfl rfl) rfl ?_
            refine K_split ?_ ?_
            ·
              intro h75
              have hx' : x < d.acc.length := by omega
              refine KV (R_pickT rfl rfl) rfl ?_
              refine K_nil ?_
              refine Q_then ?_
              refine K_ifT rfl ?_
              refine K_skip ?_
              refine Q_then ?_
              refine K_seq ?_
              refine K_block ?_
              obtain ⟨t1, t2, te, tr⟩ := at_one (x := (x : Int)) hok hs' (by omega) ⟨by omega, by omega⟩
              obtain ⟨tb, to_, ea, ecp, hte, tA, tE⟩ := (hd.mono (hV.trans hV3)).t.get t1
              cases hte
              obtain ⟨ub, uo, hue, tB⟩ := tE.get t2
              cases hue
              rw [← te] at tB
              have hq : (atM d (s : Int) [(x : Int)]).toNat < cs3.length := by rw [hR3.len]; omega
              obtain ⟨lb, lo, lc, lcs, le, lA, lD⟩ := (hL.mono hV3) (k - 1) (by omega)
              have hlx : x < lcs.length := by rw [lD.len]; exact hx'
              have lX : At V3 lb (lo + x * 1) [lcs[x]] := by rw [Nat.mul_one]; exact lA.one (by simp [hlx])
              refine K_regionD (fin := true) (R := [0, 1, 2, 3, 4, 5, 6, 7, 8, 9, 10, 11, 12, 13, 14, 15, 16, 17, 18, 19, 20, 21, 22, 23, 24, 25, 26, 27, 28, 29, 30]) (by kernel_rfl) mixed (.cons_cons _ (.cons_cons _ (.cons_cons _ (List.nil_sublist _)))) ?_
              refine D_val rfl rfl rfl (R_move rfl) ?_
              refine D_val rfl rfl rfl (R_fieldAddr 2 fd2129_2 rfl) ?_
              refine D_val rfl rfl rfl (R_loadO ty44 2 rfl rfl rfl rfl (fun _ => rfl) rfl) ?_
              refine D_val rfl rfl rfl (R_move rfl) ?_
              refine D_val rfl rfl rfl (R_indexN sl44 ty25 rfl rfl (by omega)) ?_
              refine D_val rfl rfl rfl (R_loadH ty25 rfl (tA) rfl (fun _ => rfl) rfl) ?_
              refine D_val rfl rfl rfl (R_move rfl) ?_
              refine D_val rfl rfl rfl (R_indexN sl25 ty3 rfl rfl (by omega)) ?_
              refine D_val rfl rfl rfl (R_loadH ty3 rfl (tB) rfl (fun _ => rfl) rfl) ?_
              refine D_val rfl rfl rfl (R_move rfl) ?_
              refine D_val rfl rfl rfl (R_fieldAddr 2 fd2129_2 rfl) ?_
              refine D_val rfl rfl rfl (R_loadO ty44 2 rfl rfl rfl rfl (fun _ => rfl) rfl) ?_
              refine D_val rfl rfl rfl (R_move rfl) ?_
              refine D_val rfl rfl rfl (R_indexN sl44 ty25 rfl rfl (by omega)) ?_
              refine D_val rfl rfl rfl (R_loadH ty25 rfl (tA) rfl (fun _ => rfl) rfl) ?_
              refine D_val rfl rfl rfl (R_move rfl) ?_
              refine D_val rfl rfl rfl (R_indexN sl25 ty3 rfl rfl (by omega)) ?_
              refine D_val rfl rfl rfl (R_loadH ty3 rfl (tB) rfl (fun _ => rfl) rfl) ?_
              refine D_val rfl rfl rfl (R_index sl2134 ty2133 rfl rfl ⟨by omega, by omega⟩) ?_
              refine D_val rfl rfl rfl (R_loadC ty2133 0 rfl rfl (by simp [hq] : (cs3.toArray)[0 + (atM d (s : Int) [(x : Int)]).toNat * 1]? = some cs3[(atM d (s : Int) [(x : Int)]).toNat])) ?_
              refine D_val rfl rfl rfl (R_move rfl) ?_
              refine D_val rfl rfl rfl (R_move rfl) ?_
              refine D_val rfl rfl rfl (R_sub rfl rfl (by omega)) ?_
              refine D_val rfl rfl rfl (R_index sl2145 ty2134 rfl rfl ⟨by omega, by omega⟩) ?_
              refine D_val rfl rfl rfl (R_loadRow (v := .slice (some ⟨lb, lo, none⟩) d.acc.length lc) ty2134 1 rfl rfl rfl (by rw [show 0 + ((k : Int) - 1).toNat * 1 = k - 1 by omega, take_one (by omega), le]) rfl (fun _ => rfl) rfl) ?_
              refine D_val rfl rfl rfl (R_move rfl) ?_
              refine D_val rfl rfl rfl (R_indexN sl2134 ty2133 rfl rfl (by omega)) ?_
              refine D_val rfl rfl rfl (R_loadH ty2133 rfl (lX) rfl (fun _ => rfl) rfl) ?_
              refine D_call rfl rfl c2151 rfl ⟨⟨0, rfl⟩, ⟨1, rfl⟩, ⟨2, rfl⟩, trivial⟩ (addD_spec _ _ _ _ V3 (hR3.at_ _ hq) (lD.at_ x hlx) (m1_small h8 hn8 (by omega) (by omega) hs' (by rw [if_pos (by omega)]; exact hx)) (cD_small h8 hn8 (by omega) _)) ?_
              rintro w107 Y1 hv1 hw1
              obtain ⟨wa, wk, wc, rfl⟩ := hw1.shape
              refine D_val rfl rfl rfl (R_index sl2134 ty2133 rfl rfl ⟨by omega, by omega⟩) ?_
              refine D_lastStoreE ty2133 0 rfl rfl rfl rfl rfl rfl (by simp [Value.cells]; omega) rfl (row_put (j := (atM d (s : Int) [(x : Int)]).toNat) hq (by omega)) ?_
              refine Q_block ?_
              refine Q_then ?_
              refine K_region ?_
              refine KV (R_move rfl) rfl ?_
              refine KV (R_add rfl rfl (by omega)) rfl ?_
              refine KV (R_assign rfl) rfl ?_
              refine K_nil ?_
              refine Q_nextD (x + 1, Y1, cs3.set (atM d (s : Int) [(x : Int)]).toNat (.slice wa wk wc)) ⟨hx', .inr (by omega), hV3.trans hv1, hW3.trans hv1, (hR3.mono hv1).put hw1 fun q => by rw [m1_succ, if_toNat tr.1]⟩ (by (try dsimp only); omega) ⟨rfl, trivial⟩ rfl rfl rfl
            ·
              intro h75
              exact absurd (by omega) h75
          ·
            intro h68
            obtain rfl : x = d.acc.length := by omega
            have hRs := hR3.congr (g := fun q => m2 d k s 0 q) fun q _ => m2_of1 (by omega) q
            refine KV (R_move rfl) rfl ?_
            refine K_gno rfl rfl rfl rfl ?_
            refine K_gno rfl rfl rfl rfl ?_
            refine K_gno rfl rfl rfl rfl ?_
            refine K_gno rfl rfl rfl rfl ?_
            refine K_gno rfl rfl rfl rfl ?_
            refine K_gno rfl rfl rfl rfl ?_
            refine KV (R_pickF rfl rfl) rfl ?_
            refine K_nil ?_
            refine Q_then ?_
            refine K_ifF rfl ?_
            refine K_exit ?_
            refine Q_then_exit ?_
            refine Q_then_exit ?_
            refine Q_block_exit ?_
            refine Q_then ?_
            refine K_seq ?_
            refine K_region ?_
            refine KV (R_assign rfl) rfl ?_
            refine K_nil ?_
            refine Q_then ?_
            refine K_block ?_
            refine K_loopD (G := Nat × View × List Value) [11, 12, 13, 14, 109, 110, 111, 112, 113, 114, 115, 116, 117, 118, 119, 120, 121, 122, 123, 124, 125, 126, 127, 128, 129, 130, 131, 132, 133, 134, 135, 136, 137, 138, 139, 140, 141, 142, 143, 144, 145, 146, 147, 148, 149, 150, 151, 152, 153, 154, 155, 156, 157, 158, 159, 160, 161, 162, 163, 164, 165, 166, 167, 168, 169, 170] (fun g => [(11, .int .i64 ((g.1 + 1 : Nat) : Int))]) (fun hl g => (hl.set 0 (blk b27 (.cells g.2.2.toArray T2133 (0, 0))))) (fun g => g.2.1) (fun g => (g.1 ≤ k - 2) ∧ (g.1 = 0 ∨ d.ranks[s] = 2) ∧ (VLe V g.2.1) ∧ (VLe V2 g.2.1) ∧ (DecRow g.2.1 d.acc.length (fun q => m2 d k s g.1 q) g.2.2)) (fun g => k - g.1) (0, _, _) ⟨Nat.zero_le _, .inl rfl, hV3, hW3, hRs⟩ ⟨rfl, trivial⟩ (by simp only [args0, Nat.reduceAdd, del, memN, beqN, Nat.reduceBEq, cond_true, cond_false]; rfl) rfl rfl ?_
            rintro ⟨j, V4, cs4⟩ ⟨hj, hj0, hV4, hW4, hR4⟩
            dsimp only at hj hj0 hV4 hW4 hR4
            dsimp only [List.set, List.cons_append, List.nil_append]
            refine K_seq ?_
            refine K_seq ?_
            refine K_region ?_
            refine KV (R_move rfl) rfl ?_
            refine KV (R_move rfl) rfl ?_
            refine KV (R_sub rfl rfl (by omega)) rfl ?_
            refine KV (R_cmp rfl rfl rfl) rfl ?_
            refine K_split ?_ ?_
            ·
              intro h112
              refine KV (R_move rfl) rfl ?_
              refine K_gyes rfl rfl ?_
              refine KV (R_fieldAddr 0 fd2129_0 rfl) rfl ?_
              refine K_gyes rfl rfl ?_
              refine KV (R_loadO ty25 2 rfl rfl rfl rfl (fun _ => rfl) rfl) rfl ?_
              refine K_gyes rfl rfl ?_
              refine KV (R_move rfl) rfl ?_
              refine K_gyes rfl rfl ?_
              refine KV (R_indexN sl25 ty3 rfl rfl (by omega)) rfl ?_
              refine K_gyes rfl rfl ?_
              refine KV (R_loadH ty3 rfl (rA.mono hW4) rfl (fun _ => rfl) rfl) rfl ?_
              refine K_gyes rfl rfl ?_
              refine KV (R_cmp rfl rfl rfl) rfl ?_
              refine K_split ?_ ?_
              ·
                intro h119
                exact absurd h119 (by omega)
              ·
                intro h119
                obtain rfl : j = 0 := by omega
                have hRn := hR4.congr (g := fun q => partD d k (s + 1) (q : Int)) fun q _ => m_end0 (by omega) (by omega) q
                refine KV (R_pickT rfl rfl) rfl ?_
                refine K_nil ?_
                refine Q_then ?_
                refine K_ifF rfl ?_
                refine K_exit ?_
                refine Q_then_exit ?_
                refine Q_then_exit ?_
                refine Q_block_exit ?_
                refine Q_block ?_
                refine Q_then ?_
                refine K_region ?_
                refine KV (R_move rfl) rfl ?_
                refine KV (R_add rfl rfl (by omega)) rfl ?_
                refine KV (R_assign rfl) rfl ?_
                refine K_nil ?_
                refine Q_nextD (s + 1, V4, cs4) ⟨hs', hV4, hRn⟩ (by (try dsimp only); omega) ⟨rfl, trivial⟩ rfl rfl rfl
            ·
              intro h112
              obtain rfl : j = 0 := by omega
              have hRn := hR4.congr (g := fun q => partD d k (s + 1) (q : Int)) fun q _ => m_end0 (by omega) (by omega) q
              refine KV (R_move rfl) rfl ?_
              refine K_gno rfl rfl rfl rfl ?_
              refine K_gno rfl rfl rfl rfl ?_
              refine K_gno rfl rfl rfl rfl ?_
              refine K_gno rfl rfl rfl rfl ?_
              refine K_gno rfl rfl rfl rfl ?_
              refine K_gno rfl rfl rfl rfl ?_
              refine KV (R_pickF rfl rfl) rfl ?_
              refine K_nil ?_
              refine Q_then ?_
              refine K_ifF rfl ?_
              refine K_exit ?_
              refine Q_then_exit ?_
              refine Q_then_exit ?_
              refine Q_block_exit ?_
              refine Q_block ?_
              refine Q_then ?_
              refine K_region ?_
              refine KV (R_move rfl) rfl ?_
              refine KV (R_add rfl rfl (by omega)) rfl ?_
              refine KV (R_assign rfl) rfl ?_
              refine K_nil ?_
              refine Q_nextD (s + 1, V4, cs4) ⟨hs', hV4, hRn⟩ (by (try dsimp only); omega) ⟨rfl, trivial⟩ rfl rfl rfl
      ·
        obtain ⟨rb, ro, hre, rA⟩ := (hd.mono (hV.trans hV2)).r.get hs'
        cases hre
        have hge : d.ranks.getD s 0 = d.ranks[s] := by simp [List.getD, hs']
        refine K_region ?_
        refine KV (R_fieldAddr 0 fd2129_0 rfl) rfl ?_
        refine KV (R_loadO ty25 2 rfl rfl rfl rfl (fun _ => rfl) rfl) rfl ?_
        refine KV (R_move rfl) rfl ?_
        refine KV (R_indexN sl25 ty3 rfl rfl (by omega)) rfl ?_
        refine KV (R_loadH ty3 rfl (rA) rfl (fun _ => rfl) rfl) rfl ?_
        refine KV (R_cmp rfl rfl rfl) rfl ?_
        refine K_split ?_ ?_
        ·
          intro h40
          exact absurd h40 (by omega)
        ·
          intro h40
          have hVs := hV2
          have hWs := VLe.refl V2
          have hRs := hR2.congr (g := fun q => m1 d k s 0 q) fun q _ => m1_skip (fun h => by omega) q
          refine KV (R_move rfl) rfl ?_
          refine K_gno rfl rfl rfl rfl ?_
          refine K_gno rfl rfl rfl rfl ?_
          refine KV (R_pickF rfl rfl) rfl ?_
          refine K_nil ?_
          refine Q_then ?_
          refine K_ifF rfl ?_
          refine K_skip ?_
          refine Q_then ?_
          refine K_seq ?_
          refine K_seq ?_
          refine K_region ?_
          refine KV (R_assign rfl) rfl ?_
          refine K_nil ?_
          refine Q_then ?_
          refine K_block ?_
          refine K_loopD (G := Nat × View × List Value) [10, 66, 67, 68, 69, 70, 71, 72, 73, 74, 75, 76, 77, 78, 79, 80, 81, 82, 83, 84, 85, 86, 87, 88, 89, 90, 91, 92, 93, 94, 95, 96, 97, 98, 99, 100, 101, 102, 103, 104, 105, 106, 107, 108] (fun g => [(10, .int .i64 (g.1 : Int))]) (fun hl g => (hl.set 0 (blk b27 (.cells g.2.2.toArray T2133 (0, 0))))) (fun g => g.2.1) (fun g => (g.1 ≤ d.acc.length) ∧ (g.1 = 0 ∨ d.ranks[s] = 1) ∧ (VLe V g.2.1) ∧ (VLe V2 g.2.1) ∧ (DecRow g.2.1 d.acc.length (fun q => m1 d k s g.1 q) g.2.2)) (fun g => d.acc.length - g.1) (0, _, _) ⟨Nat.zero_le _, .inl rfl, hVs, hWs, hRs⟩ ⟨rfl, trivial⟩ (by simp only [args0, Nat.reduceAdd, del, memN, beqN, Nat.reduceBEq, cond_true, cond_false]; rfl) rfl rfl ?_
          rintro ⟨x, V3, cs3⟩ ⟨hx, hx0, hV3, hW3, hR3⟩
          dsimp only at hx hx0 hV3 hW3 hR3
          dsimp only [List.set, List.cons_append, List.nil_append]
          refine K_seq ?_
          refine K_seq ?_
          refine K_region ?_
          refine KV (R_move rfl) rfl ?_
          refine KV (R_move rfl) rfl ?_
          refine KV (R_cmp rfl rfl rfl) rfl ?_
          refine K_split ?_ ?_
          ·
            intro h68
            refine KV (R_move rfl) rfl ?_
            refine K_gyes rfl rfl ?_
            refine KV (R_fieldAddr 0 fd2129_0 rfl) rfl ?_
            refine K_gyes rfl rfl ?_
            refine KV (R_loadO ty25 2 rfl rfl rfl rfl (fun _ => rfl) rfl) rfl ?_
            refine K_gyes rfl rfl ?_
            refine KV (R_move rfl) rfl ?_
            refine K_gyes rfl rfl ?_
            refine KV (R_indexN sl25 ty3 rfl rfl (by omega)) rfl ?_
            refine K_gyes rfl rfl ?_
            refine KV (R_loadH ty3 rfl (rA.mono hW3) rfl (fun _ => rfl) rfl) rfl ?_
            refine K_gyes rfl rfl ?_
            refine KV (R_cmp rfl rfl rfl) rfl ?_
            refine K_split ?_ ?_
            ·
              intro h75
              exact absurd h75 (by omega)
            ·
              intro h75
              obtain rfl : x = 0 := by omega
              have hRs := hR3.congr (g := fun q => m2 d k s 0 q) fun q _ => m2_of0 (by omega) q
              refine KV (R_pickT rfl rfl) rfl ?_
              refine K_nil ?_
              refine Q_then ?_
              refine K_ifF rfl ?_
              refine K_exit ?_
              refine Q_then_exit ?_
              refine Q_then_exit ?_
              refine Q_block_exit ?_
              refine Q_then ?_
              refine K_seq ?_
              refine K_region ?_
              refine KV (R_assign rfl) rfl ?_
              refine K_nil ?_
              refine Q_then ?_
              refine K_block ?_
              refine K_loopD (G := Nat × View × List Value) [11, 12, 13, 14, 109, 110, 111, 112, 113, 114, 115, 116, 117, 118, 119, 120, 121, 122, 123, 124, 125, 126, 127, 128, 129, 130, 131, 132, 133, 134, 135, 136, 137, 138, 139, 140, 141, 142, 143, 144, 145, 146, 147, 148, 149, 150, 151, 152, 153, 154, 155, 156, 157, 158, 159, 160, 161, 162, 163, 164, 165, 166, 167, 168, 169, 170] (fun g => [(11, .int .i64 ((g.1 + 1 : Nat) : Int))]) (fun hl g => (hl.set 0 (blk b27 (.cells g.2.2.toArray T2133 (0, 0))))) (fun g => g.2.1) (fun g => (g.1 ≤ k - 2) ∧ (g.1 = 0 ∨ d.ranks[s] = 2) ∧ (VLe V g.2.1) ∧ (VLe V2 g.2.1) ∧ (DecRow g.2.1 d.acc.length (fun q => m2 d k s g.1 q) g.2.2)) (fun g => k - g.1) (0, _, _) ⟨Nat.zero_le _, .inl rfl, hV3, hW3, hRs⟩ ⟨rfl, trivial⟩ (by simp only [args0, Nat.reduceAdd, del, memN, beqN, Nat.reduceBEq, cond_true, cond_false]; rfl) rfl rfl ?_
              rintro ⟨j, V4, cs4⟩ ⟨hj, hj0, hV4, hW4, hR4⟩
              dsimp only at hj hj0 hV4 hW4 hR4
              dsimp only [List.set, List.cons_append, List.nil_append]
              refine K_seq ?_
              refine K_seq ?_
              refine K_region ?_
              refine KV (R_move rfl) rfl ?_
              refine KV (R_move rfl) rfl ?_
              refine KV (R_sub rfl rfl (by omega)) rfl ?_
              refine KV (R_cmp rfl rfl rfl) rfl ?_
              refine K_split ?_ ?_
              ·
                intro h112
                refine KV (R_move rfl) rfl ?_
                refine K_gyes rfl rfl ?_
                refine KV (R_fieldAddr 0 fd2129_0 rfl) rfl ?_
                refine K_gyes rfl rfl ?_
                refine KV (R_loadO ty25 2 rfl rfl rfl rfl (fun _ => rfl) rfl) rfl ?_
                refine K_gyes rfl rfl ?_
                refine KV (R_move rfl) rfl ?_
                refine K_gyes rfl rfl ?_
                refine KV (R_indexN sl25 ty3 rfl rfl (by omega)) rfl ?_
                refine K_gyes rfl rfl ?_
                refine KV (R_loadH ty3 rfl (rA.mono hW4) rfl (fun _ => rfl) rfl) rfl ?_
                refine K_gyes rfl rfl ?_
                refine KV (R_cmp rfl rfl rfl) rfl ?_
                refine K_split ?_ ?_
                ·
                  intro h119
                  have hj1 : j + 1 < k - 1 := by omega
                  refine KV (R_pickT rfl rfl) rfl ?_
                  refine K_nil ?_
                  refine Q_then ?_
                  refine K_ifT rfl ?_
                  refine K_skip ?_
                  refine Q_then ?_
                  refine K_seq ?_
                  refine K_block ?_
                  refine K_seq ?_
                  refine K_region ?_
                  refine KV (R_assign rfl) rfl ?_
                  refine K_nil ?_
                  refine Q_then ?_
                  refine K_block ?_
                  refine K_loopD (G := Nat × View × List Value) [12, 13, 14, 123, 124, 125, 126, 127, 128, 129, 130, 131, 132, 133, 134, 135, 136, 137, 138, 139, 140, 141, 142, 143, 144, 145, 146, 147, 148, 149, 150, 151, 152, 153, 154, 155, 156, 157, 158, 159, 160, 161, 162, 163, 164, 165, 166, 167, 168, 169, 170] (fun g => [(12, .int .i64 (g.1 : Int))]) (fun hl g => (hl.set 0 (blk b27 (.cells g.2.2.toArray T2133 (0, 0))))) (fun g => g.2.1) (fun g => (g.1 ≤ d.acc.length) ∧ (VLe V g.2.1) ∧ (VLe V2 g.2.1) ∧ (DecRow g.2.1 d.acc.length (fun q => m3 d k s j g.1 q) g.2.2)) (fun g => d.acc.length - g.1) (0, V4, cs4) ⟨Nat.zero_le _, hV4, hW4, hR4.congr fun q _ => (m3_zero d k s j q).symm⟩ ⟨rfl, trivial⟩ (by simp only [args0, Nat.reduceAdd, del, memN, beqN, Nat.reduceBEq, cond_true, cond_false]; rfl) rfl rfl ?_
                  rintro ⟨x, V5, cs5⟩ ⟨hx, hV5, hW5, hR5⟩
                  dsimp only at hx hV5 hW5 hR5
                  dsimp only [List.set, List.cons_append, List.nil_append]
                  refine K_seq ?_
                  refine K_seq ?_
                  refine K_region ?_
                  refine KV (R_move rfl) rfl ?_
                  refine KV (R_move rfl) rfl ?_
                  refine KV (R_cmp rfl rfl rfl) rfl ?_
                  refine K_nil ?_
                  refine Q_then ?_
                  refine K_if rfl (fun h125 => ?_) (fun h125 => ?_)
                  ·
                    have hx' : x < d.acc.length := by omega
                    refine K_skip ?_
                    refine Q_then ?_
                    refine K_seq ?_
                    refine K_block ?_
                    refine K_seq ?_
                    refine K_region ?_
                    refine KV (R_assign rfl) rfl ?_
                    refine K_nil ?_
                    refine Q_then ?_
                    refine K_block ?_
                    refine K_loopD (G := Nat × View × List Value) [13, 14, 128, 129, 130, 131, 132, 133, 134, 135, 136, 137, 138, 139, 140, 141, 142, 143, 144, 145, 146, 147, 148, 149, 150, 151, 152, 153, 154, 155, 156, 157, 158, 159, 160, 161, 162, 163, 164, 165, 166, 167, 168, 169, 170] (fun g => [(13, .int .i64 (g.1 : Int))]) (fun hl g => (hl.set 0 (blk b27 (.cells g.2.2.toArray T2133 (0, 0))))) (fun g => g.2.1) (fun g => (g.1 ≤ d.acc.length) ∧ (VLe V g.2.1) ∧ (VLe V2 g.2.1) ∧ (DecRow g.2.1 d.acc.length (fun q => m4 d k s j x g.1 q) g.2.2)) (fun g => d.acc.length - g.1) (0, V5, cs5) ⟨Nat.zero_le _, hV5, hW5, hR5.congr fun q _ => (m4_zero d k s j x q).symm⟩ ⟨rfl, trivial⟩ (by simp only [args0, Nat.reduceAdd, del, memN, beqN, Nat.reduceBEq, cond_true, cond_false]; rfl) rfl rfl ?_
                    rintro ⟨y, V6, cs6⟩ ⟨hy, hV6, hW6, hR6⟩
                    dsimp only at hy hV6 hW6 hR6
                    dsimp only [List.set, List.cons_append, List.nil_append]
                    refine K_seq ?_
                    refine K_seq ?_
                    refine K_region ?_
                    refine KV (R_move rfl) rfl ?_
                    refine KV (R_move rfl) rfl ?_
                    refine KV (R_cmp rfl rfl rfl) rfl ?_
                    refine K_nil ?_
                    refine Q_then ?_
                    refine K_if rfl (fun h130 => ?_) (fun h130 => ?_)
                    ·
                      have hy' : y < d.acc.length := by omega
                      refine K_skip ?_
                      refine Q_then ?_
                      refine K_seq ?_
                      refine K_block ?_
                      refine K_seq ?_
                      have hxn : (x : Int) * (d.acc.length : Int) ≤ 8 * 8 := Int.mul_le_mul (by omega) (by omega) (by omega) (by decide)
                      have hxn0 : 0 ≤ (x : Int) * (d.acc.length : Int) := Int.mul_nonneg (by omega) (by omega)
                      obtain ⟨t1, t2, te, tr, tp⟩ := at_two (x := (x : Int)) (y := (y : Int)) hok hs' (by omega) ⟨by omega, by omega⟩ ⟨by omega, by omega⟩
                      obtain ⟨tb, to_, ea, ecp, hte, tA, tE⟩ := (hd.mono (hV.trans hV6)).t.get t1
                      cases hte
                      obtain ⟨ub, uo, hue, tB⟩ := tE.get t2
                      cases hue
                      rw [← te] at tB
                      refine K_region ?_
                      refine KV (R_fieldAddr 2 fd2129_2 rfl) rfl ?_
                      refine KV (R_loadO ty44 2 rfl rfl rfl rfl (fun _ => rfl) rfl) rfl ?_
                      refine KV (R_move rfl) rfl ?_
                      refine KV (R_indexN sl44 ty25 rfl rfl (by omega)) rfl ?_
                      refine KV (R_loadH ty25 rfl (tA) rfl (fun _ => rfl) rfl) rfl ?_
                      refine KV (R_move rfl) rfl ?_
                      refine KV (R_move rfl) rfl ?_
                      refine KV (R_mul rfl rfl (by omega)) rfl ?_
                      refine KV (R_move rfl) rfl ?_
                      refine KV (R_add rfl rfl (by omega)) rfl ?_
                      refine KV (R_indexN sl25 ty3 rfl rfl (by omega)) rfl ?_
                      refine KV (R_loadH ty3 rfl (tB) rfl (fun _ => rfl) rfl) rfl ?_
                      refine KV (R_assign rfl) rfl ?_
                      refine K_nil ?_
                      refine Q_then ?_
                      have hq : (atM d (s : Int) [(x : Int), (y : Int)]).toNat < cs6.length := by rw [hR6.len]; omega
                      obtain ⟨lb, lo, lc, lcs, le, lA, lD⟩ := (hL.mono hV6) (j + 1) (by omega)
                      obtain ⟨pb, po, pc, pcs, pe, pA, pD⟩ := (hL.mono hV6) (k - 1 - (j + 1)) (by omega)
                      have hlx : x < lcs.length := by rw [lD.len]; exact hx'
                      have hpy : y < pcs.length := by rw [pD.len]; exact hy'
                      have lX : At V6 lb (lo + x * 1) [lcs[x]] := by rw [Nat.mul_one]; exact lA.one (by simp [hlx])
                      have pX : At V6 pb (po + y * 1) [pcs[y]] := by rw [Nat.mul_one]; exact pA.one (by simp [hpy])
                      refine K_regionD (fin := true) (R := [0, 1, 2, 3, 4, 5, 6, 7, 8, 9, 10, 11, 12, 13, 14, 15, 16, 17, 18, 19, 20, 21, 22, 23, 24, 25, 26]) (by kernel_rfl) mixed (.cons_cons _ (.cons_cons _ (.cons_cons _ (List.nil_sublist _)))) ?_
                      refine D_val rfl rfl rfl (R_move rfl) ?_
                      refine D_val rfl rfl rfl (R_move rfl) ?_
                      refine D_val rfl rfl rfl (R_move rfl) ?_
                      refine D_val rfl rfl rfl (R_move rfl) ?_
                      refine D_val rfl rfl rfl (R_index sl2134 ty2133 rfl rfl ⟨by omega, by omega⟩) ?_
                      refine D_val rfl rfl rfl (R_loadC ty2133 0 rfl rfl (by simp [hq] : (cs6.toArray)[0 + (atM d (s : Int) [(x : Int), (y : Int)]).toNat * 1]? = some cs6[(atM d (s : Int) [(x : Int), (y : Int)]).toNat])) ?_
                      refine D_val rfl rfl rfl (R_move rfl) ?_
                      refine D_val rfl rfl rfl (R_move rfl) ?_
                      refine D_val rfl rfl rfl (R_indexN sl2145 ty2134 rfl rfl (by omega)) ?_
                      refine D_val rfl rfl rfl (R_loadRow (v := .slice (some ⟨lb, lo, none⟩) d.acc.length lc) ty2134 1 rfl rfl rfl (by rw [show 0 + (j + 1) * 1 = j + 1 by omega, take_one (by omega), le]) rfl (fun _ => rfl) rfl) ?_
                      refine D_val rfl rfl rfl (R_move rfl) ?_
                      refine D_val rfl rfl rfl (R_indexN sl2134 ty2133 rfl rfl (by omega)) ?_
                      refine D_val rfl rfl rfl (R_loadH ty2133 rfl (lX) rfl (fun _ => rfl) rfl) ?_
                      refine D_val rfl rfl rfl (R_move rfl) ?_
                      refine D_val rfl rfl rfl (R_move rfl) ?_
                      refine D_val rfl rfl rfl (R_sub rfl rfl (by omega)) ?_
                      refine D_val rfl rfl rfl (R_move rfl) ?_
                      refine D_val rfl rfl rfl (R_sub rfl rfl (by omega)) ?_
                      refine D_val rfl rfl rfl (R_index sl2145 ty2134 rfl rfl ⟨by omega, by omega⟩) ?_
                      refine D_val rfl rfl rfl (R_loadRow (v := .slice (some ⟨pb, po, none⟩) d.acc.length pc) ty2134 1 rfl rfl rfl (by rw [show 0 + ((k : Int) - 1 - ((j + 1 : Nat) : Int)).toNat * 1 = k - 1 - (j + 1) by omega, take_one (by omega), pe]) rfl (fun _ => rfl) rfl) ?_
                      refine D_val rfl rfl rfl (R_move rfl) ?_
                      refine D_val rfl rfl rfl (R_indexN sl2134 ty2133 rfl rfl (by omega)) ?_
                      refine D_val rfl rfl rfl (R_loadH ty2133 rfl (pX) rfl (fun _ => rfl) rfl) ?_
                      refine D_call rfl rfl c2158 rfl ⟨⟨0, rfl⟩, ⟨1, rfl⟩, ⟨2, rfl⟩, trivial⟩ (mulD_spec _ _ _ _ V6 (lD.at_ x hlx) (pD.at_ y hpy) (cD_small h8 hn8 (by omega) _) (cD_small h8 hn8 (by omega) _)) ?_
                      rintro w168 Y1 hv1 h168
                      refine D_call rfl rfl c2151 rfl ⟨⟨0, rfl⟩, ⟨1, rfl⟩, ⟨2, rfl⟩, trivial⟩ (addD_spec _ _ _ _ Y1 ((hR6.at_ _ hq).mono hv1) h168 (m4_small h8 hn8 (by omega) (by omega) hs' (by omega) (by omega) hx' hy) (prod_small h8 hn8 (by omega) (by omega) _ _)) ?_
                      rintro w169 Y2 hv2 hw1
                      obtain ⟨wa, wk, wc, rfl⟩ := hw1.shape
                      refine D_val rfl rfl rfl (R_index sl2134 ty2133 rfl rfl ⟨by omega, by omega⟩) ?_
                      refine D_lastStoreE ty2133 0 rfl rfl rfl rfl rfl rfl (by simp [Value.cells]; omega) rfl (row_put (j := (atM d (s : Int) [(x : Int), (y : Int)]).toNat) hq (by omega)) ?_
                      refine Q_block ?_
                      refine Q_then ?_
                      refine K_region ?_
                      refine KV (R_move rfl) rfl ?_
                      refine KV (R_add rfl rfl (by omega)) rfl ?_
                      refine KV (R_assign rfl) rfl ?_
                      refine K_nil ?_
                      refine Q_nextD (y + 1, Y2, cs6.set (atM d (s : Int) [(x : Int), (y : Int)]).toNat (.slice wa wk wc)) ⟨hy', hV6.trans (hv1.trans hv2), hW6.trans (hv1.trans hv2), ((hR6.mono hv1).mono hv2).put hw1 fun q => by rw [m4_succ, if_toNat tr.1]⟩ (by (try dsimp only); omega) ⟨rfl, trivial⟩ rfl rfl rfl
                    ·
                      obtain rfl : y = d.acc.length := by omega
                      refine K_exit ?_
                      refine Q_then_exit ?_
                      refine Q_then_exit ?_
                      refine Q_block_exit ?_
                      refine Q_block ?_
                      refine Q_then ?_
                      refine K_region ?_
                      refine KV (R_move rfl) rfl ?_
                      refine KV (R_add rfl rfl (by omega)) rfl ?_
                      refine KV (R_assign rfl) rfl ?_
                      refine K_nil ?_
                      refine Q_nextD (x + 1, V6, cs6) ⟨hx', hV6, hW6, hR6.congr fun q _ => (m3_succ d k s j x q).symm⟩ (by (try dsimp only); omega) ⟨rfl, trivial⟩ rfl rfl rfl
                  ·
                    obtain rfl : x = d.acc.length := by omega
                    refine K_exit ?_
                    refine Q_then_exit ?_
                    refine Q_then_exit ?_
                    refine Q_block_exit ?_
                    refine Q_block ?_
                    refine Q_then ?_
                    refine K_region ?_
                    refine KV (R_move rfl) rfl ?_
                    refine KV (R_add rfl rfl (by omega)) rfl ?_
                    refine KV (R_assign rfl) rfl ?_
                    refine K_nil ?_
                    refine Q_nextD (j + 1, V5, cs5) ⟨by dsimp only; omega, .inr (by omega), hV5, hW5, hR5.congr fun q _ => (m2_succ d k s j q).symm⟩ (by (try dsimp only); omega) ⟨rfl, trivial⟩ rfl rfl rfl
                ·
                  intro h119
                  exact absurd (by omega) h119
              ·
                intro h112
                obtain rfl : j = k - 2 := by omega
                have hRn := hR4.congr (g := fun q => partD d k (s + 1) (q : Int)) fun q _ => m_end2 (by omega) (by omega) q
                refine KV (R_move rfl) rfl ?_
                refine K_gno rfl rfl rfl rfl ?_
                refine K_gno rfl rfl rfl rfl ?_
                refine K_gno rfl rfl rfl rfl ?_
                refine K_gno rfl rfl rfl rfl ?_
                refine K_gno rfl rfl rfl rfl ?_
                refine K_gno rfl rfl rfl rfl ?_
                refine KV (R_pickF rfl rfl) rfl ?_
                refine K_nil ?_
                refine Q_then ?_
                refine K_ifF rfl ?_
                refine K_exit ?_
                refine Q_then_exit ?_
                refine Q_then_exit ?_
                refine Q_block_exit ?_
                refine Q_block ?_
                refine Q_then ?_
                refine K_region ?_
                refine KV (R_move rfl) rfl ?_
                refine KV (R_add rfl rfl (by omega)) rfl ?_
                refine KV (R_assign rfl) rfl ?_
                refine K_nil ?_
                refine Q_nextD (s + 1, V4, cs4) ⟨hs', hV4, hRn⟩ (by (try dsimp only); omega) ⟨rfl, trivial⟩ rfl rfl rfl
          ·
            intro h68
            exact absurd (by omega) h68
    ·
      obtain rfl : s = d.ranks.length := by omega
      refine K_exit ?_
      refine Q_then_exit ?_
      refine Q_then_exit ?_
      refine Q_block_exit ?_
      refine Q_then ?_
      refine KC_front 0 rfl ?_
      try dsimp only [List.eraseIdx]
      refine KC_pubF fun Vp hvp hb27 => ?_
      skip
      refine K_region ?_
      refine KV (R_move rfl) rfl ?_
      refine KV (R_move rfl) rfl ?_
      refine KA (A_buildSlice (vs := [.slice (some ⟨b27, 0, none⟩) d.acc.length d.acc.length]) sl2145 ty2134 z2134 rfl rfl (by simp [Value.cells]) (by simp) rfl (by decide)) rfl fun b173 => ?_
      refine K_append1 0 ap2145 rfl rfl rfl rfl rfl rfl ⟨by omega, by omega⟩ rfl fun a174 k174 hn174 => ?_
      refine KV (R_assign rfl) rfl ?_
      refine K_nil ?_
      refine KQ_rowshape 0 rfl fun hsv => ?_
      obtain ⟨sb2, sc2, hse⟩ : ∃ g cap, Value.slice a174 (k + 1) k174 = .slice (some ⟨g, 0, none⟩) (k + 1) cap := by
        rcases hsv with ⟨h, _⟩ | h
        · cases h
        · exact h
      cases hse
      refine Q_block ?_
      refine Q_then ?_
      refine K_region ?_
      refine KV (R_move rfl) rfl ?_
      refine KV (R_add rfl rfl (by omega)) rfl ?_
      refine KV (R_assign rfl) rfl ?_
      refine K_nil ?_
      refine Q_nextD (k + 1, Vp, sb2, k174, cells ++ [.slice (some ⟨b27, 0, none⟩) d.acc.length d.acc.length]) ⟨⟨by dsimp only; omega, by dsimp only; omega⟩, hV.trans (hV2.trans hvp), by simp [hcl], (hL.mono (hV2.trans hvp)).snoc ⟨b27, 0, _, _, rfl, At.of hb27, (hR2.mono hvp).congr fun q _ => by rw [hcl]; exact partD_all d k _⟩⟩ (by (try dsimp only); omega) ⟨rfl, rfl, trivial⟩ rfl rfl rfl
  ·
    obtain rfl : k = size + 1 := by omega
    refine K_exit ?_
    refine Q_then_exit ?_
    refine Q_then_exit ?_
    refine Q_block_exit ?_
    refine Q_then ?_
    refine K_seq ?_
    obtain ⟨qb, qo, qc, qcs, qe, qA, qD⟩ := hL size (by omega)
    refine K_region ?_
    refine KV (R_move rfl) rfl ?_
    refine KV (R_move rfl) rfl ?_
    refine KV (R_max2 rfl rfl) rfl ?_
    rw [if_neg (show ¬ (0 : Int) > (size : Int) by omega)]
    refine KV (R_indexN sl2145 ty2134 rfl rfl (by omega)) rfl ?_
    refine KV (R_loadRow (v := .slice (some ⟨qb, qo, none⟩) d.acc.length qc) ty2134 0 rfl rfl rfl (by rw [show 0 + size * 1 = size by omega, take_one (by omega), qe]) rfl (fun _ => rfl) rfl) rfl ?_
    refine KV (R_assign rfl) rfl ?_
    refine K_nil ?_
    refine Q_then ?_
    refine K_ret ?_
    refine results_gen (rs := [.tmp 4]) (vs := [_]) rfl ⟨rfl, trivial⟩ ?_
    exact ⟨_, _, _, _, rfl, qA, qD⟩
end Go.Proofs.X

namespace Go.Proofs.X
open Go Pal Go.Proofs
attribute [local irreducible] Pal.KO Pal.KC Pal.KQ Pal.KD
theorem sl2156 : slcOk Tryz.prog T2156 T5 := by unfold slcOk; kernel_rfl
theorem z5 : zeroOk Tryz.prog T5 (.int .u8 0) := .of (by kernel_rfl)
theorem ap2156 : App Tryz.prog T2156 T5 1 1 := .of sl2156 (by kernel_rfl)
theorem text02_spec (ws : List Nat) (v : Value) (H : View) (hv : DW H v ws) (hc : CanT ws) (hl : ws.length ≤ 1048576) : Sat Tryz.prog F2152 #[v] H (fun r _ => r = strV (Go.Lib.decDigits (valT ws))) := by
  obtain ⟨a, cp, rfl⟩ := hv.shape
  refine enterO (n := 32) (args := [.slice a ws.length cp]) Tryz.func12 rfl rfl rfl fun w0 => ?_
  refine K_seq ?_
  refine K_region ?_
  refine KV (R_assign rfl) rfl ?_
  refine K_nil ?_
  refine Q_then ?_
  refine K_seq ?_
  refine K_seq ?_
  refine K_region ?_
  refine KV (R_move rfl) rfl ?_
  refine KV (R_len sl2133 rfl) rfl ?_
  refine KV (R_cmp rfl rfl rfl) rfl ?_
  refine K_nil ?_
  refine Q_then ?_
  refine K_if rfl (fun h7 => ?_) (fun h7 => ?_)
  ·
    have hw0 : ws = [] := List.eq_nil_of_length_eq_zero (by omega)
    subst hw0
    refine K_seq ?_
    refine K_region ?_
    refine KV (R_assign rfl) rfl ?_
    refine K_nil ?_
    refine Q_then ?_
    refine K_ret ?_
    refine Q_then_ret ?_
    refine results_gen (rs := [.tmp 2]) (vs := [_]) rfl ⟨rfl, trivial⟩ ?_
    exact dec_nil.symm
  ·
    have hw1 : ws ≠ [] := fun e => by subst e; exact h7 rfl
    refine K_skip ?_
    refine Q_then ?_
    refine K_seq ?_
    refine K_region ?_
    refine KV (R_move rfl) rfl ?_
    refine KV (R_len sl2133 rfl) rfl ?_
    refine KA (A_makeSlice (k := ws.length) ap2156 z5 ty5 rfl rfl (by omega) (by omega)) rfl fun b10 => ?_
    refine KV (R_assign rfl) rfl ?_
    refine K_nil ?_
    rw [bytesV_made, ← txtL_zero]
    refine Q_then ?_
    refine K_seq ?_
    refine K_seq ?_
    refine K_region ?_
    refine KV (R_assign rfl) rfl ?_
    refine K_nil ?_
    refine Q_then ?_
    refine K_block ?_
    refine K_loopD (G := Nat) [4, 11, 12, 13, 14, 15, 16, 17, 18, 19, 20, 21, 22, 23, 24, 25, 26, 27, 28, 29] (fun g => [(4, .int .i64 (g : Int))]) (fun hl g => (hl.set 0 (blk b10 (.cells (bytesV (txtL ws g)).toArray T5 (0, 0))))) (fun g => H) (fun g => (g ≤ ws.length)) (fun g => ws.length - g) 0 (Nat.zero_le _) ⟨rfl, trivial⟩ (by simp only [args0, Nat.reduceAdd, del, memN, beqN, Nat.reduceBEq, cond_true, cond_false]; rfl) rfl rfl ?_
    rintro k hk
    try dsimp only at hk
    dsimp only [List.set, List.cons_append, List.nil_append]
    have htl := txtL_len hk
    refine K_seq ?_
    refine K_seq ?_
    refine K_region ?_
    refine KV (R_move rfl) rfl ?_
    refine KV (R_move rfl) rfl ?_
    refine KV (R_len sl2133 rfl) rfl ?_
    refine KV (R_cmp rfl rfl rfl) rfl ?_
    refine K_nil ?_
    refine Q_then ?_
    refine K_if rfl (fun h14 => ?_) (fun h14 => ?_)
    ·
      have hk' : k < ws.length := by omega
      obtain ⟨vb, vo, hve, hva⟩ := hv.get hk'
      cases hve
      have hw10 := hv.2 _ (List.getElem_mem hk')
      refine K_skip ?_
      refine Q_then ?_
      refine K_seq ?_
      refine K_block ?_
      refine K_region ?_
      refine KV (R_move rfl) rfl ?_
      refine KV (R_move rfl) rfl ?_
      refine KV (R_len sl2133 rfl) rfl ?_
      refine KV (R_sub rfl rfl (by omega)) rfl ?_
      refine KV (R_move rfl) rfl ?_
      refine KV (R_sub rfl rfl (by omega)) rfl ?_
      refine KV (R_move rfl) rfl ?_
      refine KV (R_move rfl) rfl ?_
      refine KV (R_indexN sl2133 ty3 rfl rfl (by omega)) rfl ?_
      refine KV (R_loadH ty3 rfl (hva) rfl (fun _ => rfl) rfl) rfl ?_
      refine KV (R_add rfl rfl (by omega)) rfl ?_
      rw [show (48 : Int) + ((ws[k] : Nat) : Int) = ((48 + ws[k] : Nat) : Int) by omega]
      refine KV (R_convII (k := .u8) (by kernel_rfl) ⟨_, Tryz.underlying3⟩ rfl (r := (((chD ws[k]).toNat : Nat) : Int)) (by rw [chD_nat hw10]; unfold IntKind.wrap; simp [IntKind.signed, IntKind.bits]; omega)) rfl ?_
      refine KV (R_indexN (i := ws.length - 1 - k) sl2156 ty5 rfl (by show some _ = some _; congr 2; omega) (by omega)) rfl ?_
      refine K_storeE ty5 0 rfl rfl rfl rfl (by simp [bytesV, Value.cells]; omega) rfl (bytesV_put (bs := txtL ws k) (x := chD ws[k]) (j := ws.length - 1 - k) (by omega) (by omega)) ?_
      refine K_nil ?_
      refine Q_block ?_
      refine Q_then ?_
      refine K_region ?_
      refine KV (R_move rfl) rfl ?_
      refine KV (R_add rfl rfl (by omega)) rfl ?_
      refine KV (R_assign rfl) rfl ?_
      refine K_nil ?_
      refine Q_nextD (k + 1) hk' (by (try dsimp only); omega) ⟨rfl, trivial⟩ rfl (by rw [← txtL_succ hk']; rfl) rfl
    ·
      obtain rfl : k = ws.length := by omega
      refine K_exit ?_
      refine Q_then_exit ?_
      refine Q_then_exit ?_
      refine Q_block_exit ?_
      refine Q_then ?_
      refine K_seq ?_
      refine K_region ?_
      refine KV (R_move rfl) rfl ?_
      refine KV (R_convBS (bs := (ws.map chD).reverse) sl2156 Tryz.underlying5 Tryz.underlying9 0 rfl rfl (by simp) (fun i hi => by rw [txtL_all, Nat.zero_add]; simp)) rfl ?_
      refine KV (R_assign rfl) rfl ?_
      refine K_nil ?_
      refine Q_then ?_
      refine K_ret ?_
      refine results_gen (rs := [.tmp 2]) (vs := [_]) rfl ⟨rfl, trivial⟩ ?_
      rw [dec_digits hc hw1]; rfl
end Go.Proofs.X

namespace Go.Proofs.X
open Go Pal Go.Proofs
attribute [local irreducible] Pal.KO Pal.KC Pal.KQ Pal.KD

theorem backward_spec (a : Option Addr) (k cp : Nat) (H : View) : Sat Tryz.prog F2176 #[.slice a k cp] H (fun r H' => ∃ b, r = .func (.func F2190) #[] #[ptr b] ∧ At H' b 0 [.slice a k cp]) := by
  refine enterO (n := 4) (args := [.slice a k cp]) Tryz.func58 rfl rfl rfl fun w0 => ?_
  refine K_seq ?_
  refine K_region ?_
  refine KA (A_box rfl) rfl fun b1 => ?_
  refine KV (R_assign rfl) rfl ?_
  refine K_nil ?_
  refine KQ_pubF fun U hU hb1 => ?_
  refine Q_then ?_
  refine K_seq ?_
  refine K_region ?_
  refine KV (R_makeFunc rfl rfl) rfl ?_
  refine KV (R_assign rfl) rfl ?_
  refine K_nil ?_
  refine Q_then ?_
  refine K_ret ?_
  refine results_gen (rs := [.tmp 2]) (vs := [_]) rfl ⟨rfl, trivial⟩ ?_
  exact ⟨_, rfl, At.of hb1⟩

theorem backward1_spec (ws : List Nat) (b1 : Nat) (v : Value) (L : Nat) (H : View) (E : Nat → HL → Prop) (p0 : HL) (h0 : E 0 p0) (hv : UW H v ws) (hl : ws.length ≤ 1048576) (hA : At H b1 0 [v]) (hY : ∀ k (h : k < ws.length) p, E k p → YOkV Tryz.prog L [.int .i64 ((ws.length : Int) - 1 - (k : Int)), .int .u32 (ws[ws.length - 1 - k] : Int)] p (E (k + 1))) :
    SatO Tryz.prog F2190 #[.func (.yield L) #[] #[], ptr b1] H p0 (fun _ _ q => E ws.length q) := by
  obtain ⟨a, cp, rfl⟩ := hv.shape
  refine enterO (n := 19) (args := [.func (.yield L) #[] #[], ptr b1]) Tryz.func89 rfl rfl rfl fun w0 => ?_
  refine K_seq ?_
  refine K_region ?_
  refine KV (R_loadH ty2007 rfl (hA) rfl (fun _ => rfl) rfl) rfl ?_
  refine KV (R_len sl2007 rfl) rfl ?_
  refine KV (R_sub rfl rfl (by omega)) rfl ?_
  refine KV (R_assign rfl) rfl ?_
  refine K_nil ?_
  refine Q_then ?_
  refine K_block ?_
  refine K_loop (G := Nat × View × HL) ⟨fun g => [(0, .func (.yield L) #[] #[]), (1, ptr b1), (3, .int .i64 ((ws.length : Int) - 1 - (g.1 : Int)))], fun g => g.2.2, fun g => g.2.1, fun g => g.1 ≤ ws.length ∧ VLe H g.2.1 ∧ E g.1 g.2.2, fun g => ws.length - g.1⟩ (0, H, p0) ⟨Nat.zero_le _, VLe.refl _, h0⟩ ⟨rfl, rfl, congrArg (fun z => some (Value.int .i64 z)) (by dsimp only; omega), trivial⟩ rfl rfl ?_
  rintro ⟨k, V, p⟩ ⟨hk, hV, hE⟩
  dsimp only at hk hV hE ⊢
  refine K_seq ?_
  refine K_seq ?_
  refine K_region ?_
  refine KV (R_move rfl) rfl ?_
  refine KV (R_cmp rfl rfl rfl) rfl ?_
  refine K_nil ?_
  refine Q_then ?_
  refine K_if rfl (fun h8 => ?_) (fun h8 => ?_)
  ·
    have hk' : k < ws.length := by omega
    obtain ⟨wb, wo, hwe, hwa⟩ := (hv.mono hV).get (i := ws.length - 1 - k) (by omega)
    cases hwe
    refine K_skip ?_
    refine Q_then ?_
    refine K_seq ?_
    refine K_block ?_
    refine K_seq ?_
    refine K_regionX ?_
    refine X_val (R_move rfl) rfl ?_
    refine X_val (R_move rfl) rfl ?_
    refine X_val (R_loadH ty2007 rfl (hA.mono hV) rfl (fun _ => rfl) rfl) rfl ?_
    refine X_val (R_move rfl) rfl ?_
    refine X_val (R_indexN (i := ws.length - 1 - k) sl2007 ty164 rfl (by show some _ = some _; congr 2; omega) (by omega)) rfl ?_
    refine X_val (R_loadH ty164 rfl (hwa) rfl (fun _ => rfl) rfl) rfl ?_
    refine X_yieldV rfl rfl (r := []) (by rw [List.append_nil]) (hY k hk' _ hE) rfl fun V1 q1 hle1 hZ1 => ?_
    rw [List.append_nil]
    refine X_val (R_not rfl) rfl ?_
    refine X_nil ?_
    refine Q_then ?_
    refine K_ifF rfl ?_
    refine K_skip ?_
    refine Q_block ?_
    refine Q_then ?_
    refine K_region ?_
    refine KV (R_move rfl) rfl ?_
    refine KV (R_sub rfl rfl (by omega)) rfl ?_
    refine KV (R_assign rfl) rfl ?_
    refine K_nil ?_
    exact Q_next (k + 1, V1, q1) ⟨hk', hV.trans hle1, hZ1⟩ (by dsimp only; omega) ⟨rfl, rfl, congrArg (fun z => some (Value.int .i64 z)) (by dsimp only; omega), trivial⟩ rfl rfl
  ·
    obtain rfl : k = ws.length := by omega
    refine K_exit ?_
    refine Q_then_exit ?_
    refine Q_then_exit ?_
    refine Q_block_exit ?_
    refine Q_fall ?_
    refine results_gen (rs := []) (vs := []) rfl trivial ?_
    exact hE
end Go.Proofs.X

namespace Go.Proofs.X
open Go Pal Go.Proofs
attribute [local irreducible] Pal.KO Pal.KC Pal.KQ Pal.KD
theorem ty96 : Ty Tryz.prog T96 false 1 := .of (by kernel_rfl)
theorem z96 : zeroOk Tryz.prog T96 (.int .u64 0) := .of (by kernel_rfl)
theorem z2007 : zeroOk Tryz.prog T2007 (.slice none 0 0) := .of (by kernel_rfl)
theorem c2176 : callable Tryz.prog F2176 = true := by kernel_rfl
theorem c2190 : callable Tryz.prog F2190 = true := by kernel_rfl
set_option maxHeartbeats 1000000 in
theorem nshort_spec (ws : List Nat) (v : Value) (H : View) (hv : UW H v ws) (hl : ws.length ≤ 1048576) : Sat Tryz.prog F2161 #[.agg #[v], .int .u64 1000000000] H (fun r H' => ∃ xa k cp, r = .tuple #[.agg #[.slice xa k cp], .int .u64 ((valW ws % 1000000000 : Nat) : Int)] ∧ RepN H' (.slice xa k cp) (valW ws / 1000000000)) := by
  obtain ⟨a, cp, rfl⟩ := hv.shape
  refine enterM (n := 38) (args := [.agg #[.slice a ws.length cp], .int .u64 1000000000]) Tryz.func28 rfl rfl rfl fun w0 => ?_
  refine K_seq ?_
  refine K_region ?_
  refine KA (A_box rfl) rfl fun b2 => ?_
  refine KA (A_box rfl) rfl fun b3 => ?_
  refine KA (A_alloc z2009) rfl fun b4 => ?_
  refine KV (R_assign rfl) rfl ?_
  refine K_nil ?_
  refine Q_then ?_
  refine K_seq ?_
  refine K_region ?_
  refine KV (R_fieldAddr 0 fd2009_0 rfl) rfl ?_
  refine KV (R_loadO ty2007 2 rfl rfl rfl rfl (fun _ => rfl) rfl) rfl ?_
  refine KV (R_len sl2007 rfl) rfl ?_
  refine KA (A_makeSlice (k := ws.length) ap2007 z164 ty164 rfl rfl (by omega) (by omega)) rfl fun b14 => ?_
  refine KA (A_alloc z2007) rfl fun b6 => ?_
  refine K_store ty2007 0 rfl rfl rfl rfl rfl rfl ?_
  refine K_nil ?_
  rw [show madeCells (Value.int .u32 0).cells (ws.length * 1) = _ from words_made _]
  refine Q_then ?_
  refine K_seq ?_
  refine K_region ?_
  refine KA (A_alloc z96) rfl fun b7 => ?_
  refine K_nil ?_
  refine Q_then ?_
  refine K_seq ?_
  refine K_seq ?_
  refine K_region ?_
  refine KV (R_fieldAddr 0 fd2009_0 rfl) rfl ?_
  refine KV (R_loadO ty2007 5 rfl rfl rfl rfl (fun _ => rfl) rfl) rfl ?_
  refine K_call c2176 rfl rfl (backward_spec _ _ _ H) ?_
  rintro _ V1 hv1 ⟨bB, rfl, hbB⟩
  refine K_nil ?_
  refine Q_then ?_
  refine K_rangeFunc (p := [blk b7 (.cells #[.int .u64 ((shortS ws 1000000000 0).2 : Int)] T96 (0, 0)), blk b6 (.cells #[.slice (some ⟨b14, 0, none⟩) ws.length ws.length] T2007 (0, 0)), blk b14 (.cells (words (shortS ws 1000000000 0).1).toArray T164 (0, 0)), blk b4 (.cells #[.slice none 0 0] T2009 (0, 0)), blk b3 (.cells #[.int .u64 1000000000] T96 (0, 0)), blk b2 (.cells #[.slice a ws.length cp] T2009 (0, 0))]) (r := []) (first := []) (cap := [ptr bB]) (R := fun _ q' => q' = [blk b7 (.cells #[.int .u64 ((shortS ws 1000000000 ws.length).2 : Int)] T96 (0, 0)), blk b6 (.cells #[.slice (some ⟨b14, 0, none⟩) ws.length ws.length] T2007 (0, 0)), blk b14 (.cells (words (shortS ws 1000000000 ws.length).1).toArray T164 (0, 0)), blk b4 (.cells #[.slice none 0 0] T2009 (0, 0)), blk b3 (.cells #[.int .u64 1000000000] T96 (0, 0)), blk b2 (.cells #[.slice a ws.length cp] T2009 (0, 0))]) c2190 rfl (by rw [List.append_nil]; exact List.Perm.refl _) ?_ ?_
  ·
    intro fn D L ρ hm
    refine SatO.mono' (backward1_spec ws bB _ L V1 (fun k q => q = [blk L (.loop (rec0 fn (fr 38 ρ).tmps #[18, 19] _ _ D)), blk b7 (.cells #[.int .u64 ((shortS ws 1000000000 k).2 : Int)] T96 (0, 0)), blk b6 (.cells #[.slice (some ⟨b14, 0, none⟩) ws.length ws.length] T2007 (0, 0)), blk b14 (.cells (words (shortS ws 1000000000 k).1).toArray T164 (0, 0)), blk b4 (.cells #[.slice none 0 0] T2009 (0, 0)), blk b3 (.cells #[.int .u64 1000000000] T96 (0, 0)), blk b2 (.cells #[.slice a ws.length cp] T2009 (0, 0))]) _ rfl (hv.mono hv1) hl hbB (fun k hk p hE => ?_)) ?_
    rotate_left
    · rintro v H2 q rfl
      exact ⟨_, rfl, rfl⟩
    subst hE
    obtain ⟨hok, hrm⟩ := shortS_ok (m := 1000000000) hv.2 (by decide) k
    have hsl := shortS_len ws 1000000000 k
    have htw : topW ws k = ws[ws.length - 1 - k] := by unfold topW; simp [List.getD, show ws.length - 1 - k < ws.length by omega]
    have ht32 := topW_lt hv.2 k
    rw [← htw]
    refine yokV (n := 38) (ts := [18, 19]) (ρ0 := ρ) (L1 := [(8, .int .i64 ((ws.length : Int) - 1 - (k : Int))), (9, .int .u32 ((topW ws k : Nat) : Int)), (7, ptr b7), (6, ptr b6), (3, ptr b3)]) rfl rfl rfl rfl rfl rfl hm rfl rfl ?_ ?_
    ·
      intro c H
      refine KY_seq ?_
      refine KY_region rfl ?_
      refine KV (R_assign rfl) rfl ?_
      refine K_nil ?_
      refine Q_out ?_
      refine KY_region rfl ?_
      refine KV (R_assign rfl) rfl ?_
      refine K_nil ?_
      refine Q_out ?_
      exact ⟨rfl, rfl, rfl, rfl, rfl, rfl, rfl, trivial⟩
    ·
      intro c H
      refine KY_seq ?_
      refine KY_region rfl ?_
      refine KV (R_loadO ty96 1 rfl rfl rfl rfl (fun _ => rfl) rfl) rfl ?_
      refine KV (R_shlU (a := (shortS ws 1000000000 k).2) (k := 32) rfl rfl (by decide) (by omega)) rfl ?_
      refine KV (R_move rfl) rfl ?_
      refine KV (R_convII (k := .u64) (r := ((topW ws k : Nat) : Int)) (by kernel_rfl) ⟨_, Tryz.underlying102⟩ rfl (IntWalk.u64_in _ (by omega))) rfl ?_
      refine KV (R_bitsU (r := ((shortS ws 1000000000 k).2 * 4294967296 + topW ws k)) rfl rfl (by omega) (by omega) (.inr (.inl ⟨rfl, or_add ht32⟩))) rfl ?_
      refine KV (R_assign rfl) rfl ?_
      refine K_nil ?_
      refine Q_out ?_
      refine KY_draw rfl (fin := true) (R := [0, 1, 2, 3, 4, 5, 6, 7, 8, 9, 10, 11]) (by kernel_rfl) mixed (.cons_cons _ (.cons _ (.cons_cons _ (.cons _ (.cons_cons _ (.cons_cons _ (.cons_cons _ (List.nil_sublist _)))))))) ?_
      refine D_val rfl rfl rfl (R_loadO ty2007 1 rfl rfl rfl rfl (fun _ => rfl) rfl) ?_
      refine D_val rfl rfl rfl (R_move rfl) ?_
      refine D_val rfl rfl rfl (R_move rfl) ?_
      refine D_val rfl rfl rfl (R_loadO ty96 3 rfl rfl rfl rfl (fun _ => rfl) rfl) ?_
      refine D_val rfl rfl rfl (R_quo (r := ((((shortS ws 1000000000 k).2 * 4294967296 + topW ws k) / 1000000000 : Nat) : Int)) rfl rfl (by decide) (by rw [show (1000000000 : Int) = ((1000000000 : Nat) : Int) from rfl, tdivN]; exact IntWalk.u64_in _ (by omega))) ?_
      refine D_val rfl rfl rfl (R_convII (k := .u32) (r := ((((shortS ws 1000000000 k).2 * 4294967296 + topW ws k) / 1000000000 : Nat) : Int)) (by kernel_rfl) ⟨_, Tryz.underlying66⟩ rfl (by rw [IntKind.wrap_u32]; omega)) ?_
      refine D_val rfl rfl rfl (R_move rfl) ?_
      refine D_val rfl rfl rfl (R_loadO ty96 3 rfl rfl rfl rfl (fun _ => rfl) rfl) ?_
      refine D_val rfl rfl rfl (R_rem (b := ((1000000000 : Nat) : Int)) rfl rfl (by decide)) ?_
      rw [tmodN]
      refine D_val rfl rfl rfl (R_indexN (i := ws.length - 1 - k) sl2007 ty164 rfl (by show some _ = some _; congr 2; omega) (by omega)) ?_
      refine D_storeE ty164 3 rfl rfl rfl rfl rfl ⟨⟨0, rfl⟩, ⟨2, rfl⟩, ⟨3, rfl⟩, ⟨4, rfl⟩, ⟨5, rfl⟩, trivial⟩ rfl (by simp [words, Value.cells]; omega) rfl (words_put (os := (shortS ws 1000000000 k).1) (v := ((shortS ws 1000000000 k).2 * 4294967296 + topW ws k) / 1000000000) (j := ws.length - 1 - k) (by omega) (by omega)) ?_
      refine D_lastStore ty96 2 rfl rfl rfl rfl rfl rfl rfl rfl ?_
      refine KQ_sel [1, 1, 1, 0, 0, 0, 0] rfl ?_
      refine Q_out ?_
      exact ⟨_, rfl, rfl⟩
  ·
    rintro D H2 q' hle rfl ρ w hm ho
    rw [List.append_nil] at ho
    refine wp_endY (hl := [blk b7 (.cells #[.int .u64 ((shortS ws 1000000000 ws.length).2 : Int)] T96 (0, 0)), blk b6 (.cells #[.slice (some ⟨b14, 0, none⟩) ws.length ws.length] T2007 (0, 0)), blk b14 (.cells (words (shortS ws 1000000000 ws.length).1).toArray T164 (0, 0)), blk b4 (.cells #[.slice none 0 0] T2009 (0, 0)), blk b3 (.cells #[.int .u64 1000000000] T96 (0, 0)), blk b2 (.cells #[.slice a ws.length cp] T2009 (0, 0))]) (rs := [.cell 4 T2009, .tmp 5]) (S := fun l hl1 H1 => ∃ xa xk xc, Pal.look l 4 = some (ptr b4) ∧ Pal.look l 5 = some (.int .u64 ((valW ws % 1000000000 : Nat) : Int)) ∧ hl1 = [blk D (.deferred (some [])), blk b7 (.cells #[.int .u64 ((shortS ws 1000000000 ws.length).2 : Int)] T96 (0, 0)), blk b6 (.cells #[.slice (some ⟨b14, 0, none⟩) ws.length ws.length] T2007 (0, 0)), blk b4 (.cells #[.slice xa xk xc] T2009 (0, 0)), blk b3 (.cells #[.int .u64 1000000000] T96 (0, 0)), blk b2 (.cells #[.slice a ws.length cp] T2009 (0, 0))] ∧ RepN H1 (.slice xa xk xc) (valW ws / 1000000000)) hm ho ?_ ?_
    ·
      refine KY_perm ([blk b14 (.cells (words (shortS ws 1000000000 ws.length).1).toArray T164 (0, 0)), blk D (.deferred (some [])), blk b7 (.cells #[.int .u64 ((shortS ws 1000000000 ws.length).2 : Int)] T96 (0, 0)), blk b6 (.cells #[.slice (some ⟨b14, 0, none⟩) ws.length ws.length] T2007 (0, 0)), blk b4 (.cells #[.slice none 0 0] T2009 (0, 0)), blk b3 (.cells #[.int .u64 1000000000] T96 (0, 0)), blk b2 (.cells #[.slice a ws.length cp] T2009 (0, 0))]) (List.perm_middle (l₁ := [_, _, _])) ?_
      refine KY_pubF fun H3 hle3 hb14 => ?_
      obtain ⟨hok, hrm⟩ := shortS_ok (m := 1000000000) hv.2 (by decide) ws.length
      have hsl := shortS_len ws 1000000000 ws.length
      obtain ⟨hval, hrem⟩ := shortS_done (m := 1000000000) hv.2 (by decide)
      have hcall := trimW_spec (shortS ws 1000000000 ws.length).1 (some ⟨b14, 0, none⟩) ws.length H3 ⟨⟨_, _, rfl, .inr ⟨b14, 0, rfl, At.of hb14⟩⟩, hok⟩ (by omega) (by omega)
      rw [hsl] at hcall
      refine KY_draw rfl (fin := false) (R := [0, 2, 1, 3, 4]) (by kernel_rfl) mixed (.cons_cons _ (.cons_cons _ (.cons_cons _ (.cons _ (.cons_cons _ (.cons_cons _ (List.nil_sublist _))))))) ?_
      refine D_val rfl rfl rfl (R_loadO ty2007 2 rfl rfl rfl rfl (fun _ => rfl) rfl) ?_
      refine D_val rfl rfl rfl (R_loadO ty96 1 rfl rfl rfl rfl (fun _ => rfl) rfl) ?_
      refine D_call rfl rfl c2047 rfl ⟨⟨0, rfl⟩, ⟨1, rfl⟩, ⟨2, rfl⟩, ⟨4, rfl⟩, ⟨5, rfl⟩, trivial⟩ (hcall) ?_
      rintro _ V3 hv3 ⟨xa, k3, rfl, hN⟩
      rw [hval] at hN
      refine D_store ty2009 3 rfl rfl rfl rfl rfl ⟨⟨0, rfl⟩, ⟨1, rfl⟩, ⟨2, rfl⟩, ⟨3, rfl⟩, ⟨4, rfl⟩, trivial⟩ rfl rfl rfl ?_
      refine D_val rfl rfl rfl (R_assign rfl) ?_
      refine D_done ?_
      refine KQ_sel [1, 1, 1, 0, 0, 0] rfl ?_
      refine Q_out ?_
      exact ⟨_, _, _, rfl, by rw [← hrem]; rfl, rfl, hN⟩
    · rintro l' hl' H4 ⟨xa, xk, xc, g1, g2, rfl, hN⟩
      exact ⟨_, [.agg #[.slice xa xk xc], .int .u64 ((valW ws % 1000000000 : Nat) : Int)], rfl, rfl, ⟨⟨_, _, _, _, _, _, 2, g1, rfl, ty2009, (fun e => by cases e), rfl, rfl⟩, g2, trivial⟩, fun w' ho' => ⟨H4, _, ho', xa, xk, xc, rfl, hN⟩⟩
end Go.Proofs.X

namespace Go.Proofs.X
open Go Pal Go.Proofs
attribute [local irreducible] Pal.KO Pal.KC Pal.KQ Pal.KD
theorem z2189 : zeroOk Tryz.prog T2189 (.agg #[.int .u8 0, .int .u8 0, .int .u8 0, .int .u8 0, .int .u8 0, .int .u8 0, .int .u8 0, .int .u8 0, .int .u8 0, .int .u8 0, .int .u8 0, .int .u8 0, .int .u8 0, .int .u8 0, .int .u8 0, .int .u8 0, .int .u8 0, .int .u8 0, .int .u8 0, .int .u8 0, .int .u8 0, .int .u8 0, .int .u8 0, .int .u8 0]) := .of (by kernel_rfl)
theorem ar2189 : Tryz.prog.underlying T2189 = some (.array 24 T5) := by kernel_rfl
theorem c2177 : callable Tryz.prog F2177 = true := by kernel_rfl
theorem c2191 : callable Tryz.prog F2191 = true := by kernel_rfl
theorem c2192 : callable Tryz.prog F2192 = true := by kernel_rfl
theorem c2193 : callable Tryz.prog F2193 = true := by kernel_rfl
set_option maxRecDepth 8000 in
theorem fmtu0_spec (u : Nat) (hu : u < 18446744073709551616) (H : View) (hT : TabN Tryz.prog H) : Sat Tryz.prog F2177 #[.int .u64 (u : Int), .int .i64 10] H (fun r _ => r = strV (Go.Lib.decDigits u)) := by
  have hn1 := Go.Lib.nDigits_pos u
  have hn20 := Go.Lib.nDigits_le20 u hu
  refine enterO (n := 32) (args := [.int .u64 (u : Int), .int .i64 10]) Tryz.func59 rfl rfl rfl fun w0 => ?_
  refine K_seq ?_
  refine K_region ?_
  refine KV (R_assign rfl) rfl ?_
  refine K_nil ?_
  refine Q_then ?_
  refine K_seq ?_
  refine K_seq ?_
  refine K_region ?_
  refine KV (R_move rfl) rfl ?_
  refine KV (R_cmp rfl rfl rfl) rfl ?_
  refine K_nil ?_
  refine Q_then ?_
  refine K_if rfl (fun h10 => ?_) (fun h10 => ?_)
  ·
    refine K_seq ?_
    refine K_seq ?_
    refine K_region ?_
    refine KV (R_move rfl) rfl ?_
    refine KV (R_cmp rfl rfl rfl) rfl ?_
    refine K_nil ?_
    refine Q_then ?_
    refine K_if rfl (fun h12 => ?_) (fun h12 => ?_)
    ·
      refine K_seq ?_
      refine K_region ?_
      refine KV (R_move rfl) rfl ?_
      refine KV (R_convII (k := .i64) (r := ((u : Nat) : Int)) (by kernel_rfl) ⟨_, Tryz.underlying66⟩ rfl (wrap64 (by omega))) rfl ?_
      refine K_call c2191 rfl rfl (small_sat Tryz.lSmall (i := u) (by omega)) ?_
      rintro _ V1 hv1 rfl
      refine KV (R_assign rfl) rfl ?_
      refine K_nil ?_
      refine Q_then ?_
      refine K_ret ?_
      refine Q_then_ret ?_
      refine Q_then_ret ?_
      refine results_gen (rs := [.tmp 4]) (vs := [_]) rfl ⟨rfl, trivial⟩ ?_
      rfl
    ·
      refine K_skip ?_
      refine Q_then ?_
      refine K_seq ?_
      refine K_region ?_
      refine KA (A_alloc z2189) rfl fun b5 => ?_
      refine K_nil ?_
      refine Q_then ?_
      refine K_seq ?_
      refine K_region ?_
      refine KV (R_move rfl) rfl ?_
      refine K_call c2192 rfl rfl (num_sat Tryz.lNum (u := u) (by omega) hu hT) ?_
      rintro _ V1 hv1 rfl
      refine KV (R_assign rfl) rfl ?_
      refine K_nil ?_
      refine Q_then ?_
      refine K_seq ?_
      refine K_region ?_
      refine KV (R_move rfl) rfl ?_
      refine KV (R_sliceArrHi (m := Go.Lib.nDigits u) ar2189 ty5 rfl rfl (by omega) (by decide)) rfl ?_
      refine KV (R_move rfl) rfl ?_
      refine K_callO (first := []) [blk b5 (.cells (bytesV (List.replicate 24 0)).toArray T2189 (0, 0))] [] (List.Perm.refl _) c2193 rfl rfl rfl (fmt_satO Tryz.lFmt (u := u) (m := 24) (by omega) (by decide) hu) ?_
      rintro _ V2 q hv2 ⟨rfl, rfl⟩
      refine K_nil ?_
      refine Q_then ?_
      refine K_seq ?_
      refine K_region ?_
      refine KV (R_move rfl) rfl ?_
      refine KV (R_sliceArrHi (m := Go.Lib.nDigits u) ar2189 ty5 rfl rfl (by omega) (by decide)) rfl ?_
      refine KV (R_convBS (bs := Go.Lib.decDigits u) sl2156 Tryz.underlying5 Tryz.underlying9 0 rfl rfl (Go.Lib.decDigits_length u) (fun i hi => by rw [Nat.zero_add]; simp only [bytesV, List.getElem?_toArray, List.map_append]; rw [List.getElem?_append_left (by rw [List.length_map, Go.Lib.decDigits_length]; exact hi)])) rfl ?_
      refine KV (R_assign rfl) rfl ?_
      refine K_nil ?_
      refine Q_then ?_
      refine K_ret ?_
      refine Q_then_ret ?_
      refine results_gen (rs := [.tmp 4]) (vs := [_]) rfl ⟨rfl, trivial⟩ ?_
      rfl
  ·
    exact absurd rfl h10

theorem fmtu_spec (u : Nat) (hu : u < 18446744073709551616) (H : View) (hT : TabN Tryz.prog H) : Sat Tryz.prog F2162 #[.int .u64 (u : Int), .int .i64 10] H (fun r _ => r = strV (Go.Lib.decDigits u)) := by
  refine enterO (n := 8) (args := [.int .u64 (u : Int), .int .i64 10]) Tryz.func29 rfl rfl rfl fun w0 => ?_
  refine K_seq ?_
  refine K_region ?_
  refine KV (R_assign rfl) rfl ?_
  refine K_nil ?_
  refine Q_then ?_
  refine K_seq ?_
  refine K_region ?_
  refine KV (R_move rfl) rfl ?_
  refine KV (R_move rfl) rfl ?_
  refine K_call c2177 rfl rfl (fmtu0_spec u hu H hT) ?_
  rintro _ V1 hv1 rfl
  refine KV (R_assign rfl) rfl ?_
  refine K_nil ?_
  refine Q_then ?_
  refine K_ret ?_
  refine results_gen (rs := [.tmp 4]) (vs := [_]) rfl ⟨rfl, trivial⟩ ?_
  rfl
end Go.Proofs.X

namespace Go.Proofs.X
open Go Pal Go.Proofs
attribute [local irreducible] Pal.KO Pal.KC Pal.KQ Pal.KD
theorem ty9 : Ty Tryz.prog T9 false 1 := .of (by kernel_rfl)
theorem sl2149 : slcOk Tryz.prog T2149 T9 := by unfold slcOk; kernel_rfl
theorem z9 : zeroOk Tryz.prog T9 (.string ⟨#[]⟩) := .of (by kernel_rfl)
theorem c2149 : callable Tryz.prog F2149 = true := by kernel_rfl
theorem c2161 : callable Tryz.prog F2161 = true := by kernel_rfl
theorem c2162 : callable Tryz.prog F2162 = true := by kernel_rfl
theorem c2163 : callable Tryz.prog F2163 = true := by kernel_rfl
theorem c2164 : callable Tryz.prog F2164 = true := by kernel_rfl
theorem c2165 : callable Tryz.prog F2165 = true := by kernel_rfl
theorem ap2149 : App Tryz.prog T2149 T9 1 16 := .of sl2149 (by kernel_rfl)
set_option maxRecDepth 8000 in
set_option maxHeartbeats 1000000 in
theorem string_spec (n : Nat) (v : Value) (H : View) (hv : RepN H v n) (hn : n < bigN) (hn2 : n < 2 ^ 200) (hT : TabN Tryz.prog H) : SatZ Tryz.prog F2110 #[.agg #[v]] H (fun r _ => r = strV (Go.Lib.decDigits n)) := by
  refine enterZ (n := 37) (args := [.agg #[v]]) Tryz.func11 rfl rfl rfl fun w0 => ?_
  refine K_seq ?_
  refine K_region ?_
  refine KA (A_box rfl) rfl fun b1 => ?_
  refine KV (R_assign rfl) rfl ?_
  refine K_nil ?_
  refine Q_then ?_
  refine K_seq ?_
  refine K_seq ?_
  refine K_region ?_
  refine KV (R_loadW ty2009 0 rfl rfl rfl rfl) rfl ?_
  refine K_call c2149 rfl rfl (isz_spec n v H hv) ?_
  rintro _ V0 hv0 rfl
  refine K_nil ?_
  refine Q_then ?_
  refine K_if rfl (fun h8 => ?_) (fun h8 => ?_)
  ·
    refine K_seq ?_
    refine K_region ?_
    refine KV (R_assign rfl) rfl ?_
    refine K_nil ?_
    refine Q_then ?_
    refine K_ret ?_
    refine Q_then_ret ?_
    refine results_gen (rs := [.tmp 2]) (vs := [_]) rfl ⟨rfl, trivial⟩ ?_
    subst h8
    exact dec_zero.symm
  ·
    refine K_skip ?_
    refine Q_then ?_
    refine K_seq ?_
    refine K_region ?_
    refine KV (R_assign rfl) rfl ?_
    refine K_nil ?_
    refine Q_then ?_
    refine K_seq ?_
    refine K_block ?_
    refine K_nilrow T9 1 ?_
    refine K_loopD (G := Nat × List (List UInt8) × View × Value × Value) [3, 4, 5, 6, 9, 10, 11, 12, 13, 14, 15, 16, 17, 18, 19, 20, 21, 22, 23, 24, 25, 26, 27, 28, 29, 30, 31, 32] (fun g => [(3, g.2.2.2.1)]) (fun hl g => ((hl.set 0 (row g.2.2.2.1 T9 1 g.2.1.length (strs g.2.1))).set 1 (blk b1 (.cells #[g.2.2.2.2] T2009 (0, 0))))) (fun g => g.2.2.1) (fun g => (PartsI n g.1 g.2.1) ∧ (g.1 * 2 ^ g.2.1.length ≤ n) ∧ (∀ p ∈ g.2.1, p.length ≤ 9) ∧ (VLe H g.2.2.1) ∧ (∃ ad cp, g.2.2.2.1 = .slice ad g.2.1.length cp) ∧ (RepN g.2.2.1 g.2.2.2.2 g.1) ∧ (g.2.1.length ≤ 200)) (fun g => g.1) (n, [], V0, nilS, v) ⟨PartsI.start (by omega), by simp, fun p hp => (by cases hp), hv0, ⟨none, 0, rfl⟩, hv.mono hv0, Nat.zero_le _⟩ ⟨rfl, trivial⟩ (by simp only [args0, Nat.reduceAdd, del, memN, beqN, Nat.reduceBEq, cond_true, cond_false]; rfl) rfl rfl ?_
    rintro ⟨m, ps, V, w, mv⟩ ⟨hP, hb, h9, hV, hw, hmv, hps⟩
    dsimp only at hP hb h9 hV hw hmv hps
    dsimp only [List.set, List.cons_append, List.nil_append]
    obtain ⟨wa, wcp, rfl⟩ := hw
    refine K_seq ?_
    refine K_seq ?_
    refine K_region ?_
    refine KV (R_loadW ty2009 1 rfl rfl rfl rfl) rfl ?_
    refine K_call c2149 rfl rfl (isz_spec m mv V hmv) ?_
    rintro _ V1 hv1 rfl
    refine KV (R_notP rfl) rfl ?_
    refine K_nil ?_
    refine Q_then ?_
    refine K_if rfl (fun h11 => ?_) (fun h11 => ?_)
    ·
      refine K_skip ?_
      refine Q_then ?_
      refine K_block ?_
      refine K_seq ?_
      have hm0 : 0 < m := by omega
      have hmn := parts_le hb
      have hfew := parts_few hb hm0 hn2
      obtain ⟨ws, hU, hval, hwl⟩ := hmv.words (by omega)
      have hd9 := dec_len9 (b := m % 1000000000) (by omega)
      refine K_region ?_
      refine KV (R_loadW ty2009 1 rfl rfl rfl rfl) rfl ?_
      refine K_call c2161 rfl rfl (nshort_spec ws mv V1 (hU.mono hv1) (by omega)) ?_
      rintro _ V2 hv2 ⟨xa, xk, xc, rfl, hN2⟩
      rw [hval] at hN2 ⊢
      refine KV (R_move rfl) rfl ?_
      refine KV (R_extract rfl rfl) rfl ?_
      refine KV (R_extract rfl rfl) rfl ?_
      refine KA (A_alloc z2009) rfl fun b4 => ?_
      refine K_storeW ty2009 0 rfl rfl rfl rfl rfl rfl rfl ?_
      refine KV (R_assign rfl) rfl ?_
      refine K_nil ?_
      refine Q_then ?_
      refine K_seq ?_
      refine K_region ?_
      refine KV (R_move rfl) rfl ?_
      refine K_call c2162 rfl rfl (fmtu_spec (m % 1000000000) (by omega) V2 (hT.mono (hV.trans (hv1.trans hv2)))) ?_
      rintro _ V3 hv3 rfl
      refine KV (R_assign rfl) rfl ?_
      refine K_nil ?_
      refine Q_then ?_
      refine K_seq ?_
      refine K_seq ?_
      refine K_region ?_
      refine KV (R_loadW ty2009 0 rfl rfl rfl rfl) rfl ?_
      refine K_call c2149 rfl rfl (isz_spec (m / 1000000000) _ V3 (hN2.mono hv3)) ?_
      rintro _ V4 hv4 rfl
      refine KV (R_notP rfl) rfl ?_
      refine K_nil ?_
      refine Q_then ?_
      refine K_if rfl (fun h21 => ?_) (fun h21 => ?_)
      ·
        refine K_region ?_
        refine KV (R_move rfl) rfl ?_
        refine KV (R_lenS (bs := (Go.Lib.decDigits (m % 1000000000))) Tryz.underlying9 rfl) rfl ?_
        refine KV (R_sub rfl rfl (by omega)) rfl ?_
        rw [show (9 : Int) - (((Go.Lib.decDigits (m % 1000000000)).length : Nat) : Int) = ((9 - (Go.Lib.decDigits (m % 1000000000)).length : Nat) : Int) by omega]
        refine K_callZ rfl c2163 rfl rfl (repeat_satZ Tryz.lRep Tryz.lRepX (c := 9 - (Go.Lib.decDigits (m % 1000000000)).length) (by omega)) ?_
        rintro _ V5 hv5 ⟨rfl, rfl⟩
        refine KV (R_move rfl) rfl ?_
        refine KV (R_addS (us := List.replicate (9 - (Go.Lib.decDigits (m % 1000000000)).length) 48) (bs := (Go.Lib.decDigits (m % 1000000000))) rfl rfl (by rw [List.length_replicate]; omega)) rfl ?_
        refine KV (R_assign rfl) rfl ?_
        refine K_nil ?_
        refine Q_then ?_
        refine K_seq ?_
        refine K_region ?_
        refine KV (R_move rfl) rfl ?_
        refine KV (R_move rfl) rfl ?_
        refine KA (A_buildSlice (vs := [strV (List.replicate (9 - (Go.Lib.decDigits (m % 1000000000)).length) 48 ++ Go.Lib.decDigits (m % 1000000000))]) sl2149 ty9 z9 rfl rfl (by intro v hv; simp only [List.mem_cons, List.not_mem_nil, or_false] at hv; subst hv; rfl) (by simp) rfl (by decide)) rfl fun b30 => ?_
        refine K_append1 1 ap2149 rfl rfl rfl rfl rfl rfl ⟨by omega, by omega⟩ rfl fun a31 k31 hn31 => ?_
        refine KV (R_assign rfl) rfl ?_
        refine K_nil ?_
        refine Q_then ?_
        refine K_region ?_
        refine KV (R_loadW ty2009 1 rfl rfl rfl rfl) rfl ?_
        refine K_storeW ty2009 2 rfl rfl rfl rfl rfl rfl rfl ?_
        refine K_nil ?_
        refine Q_block ?_
        refine KQ_sel [0, 1] rfl ?_
        refine Q_nextD (m / 1000000000, ps ++ [partOf m], _, .slice a31 (ps.length + 1) k31, .slice xa xk xc) ⟨hP.step hm0, by rw [List.length_append]; exact parts_half hb, fun p hp => by
          rcases List.mem_append.1 hp with hp | hp
          · exact h9 p hp
          · rw [List.mem_singleton.1 hp]; exact partOf_len m, hV.trans (hv1.trans (hv2.trans (hv3.trans hv4))), ⟨_, _, by rw [List.length_append]; rfl⟩, hN2.mono (hv3.trans hv4), by rw [List.length_append]; exact hfew⟩ (by dsimp only; exact Nat.div_lt_self hm0 (by decide)) ⟨rfl, trivial⟩ rfl (by dsimp only; rw [strs_snoc, List.length_append, show partOf m = (List.replicate (9 - (Go.Lib.decDigits (m % 1000000000)).length) 48 ++ Go.Lib.decDigits (m % 1000000000)) from if_neg h21]; rfl) rfl
      ·
        refine K_skip ?_
        refine Q_then ?_
        refine K_seq ?_
        refine K_region ?_
        refine KV (R_move rfl) rfl ?_
        refine KV (R_move rfl) rfl ?_
        refine KA (A_buildSlice (vs := [strV (Go.Lib.decDigits (m % 1000000000))]) sl2149 ty9 z9 rfl rfl (by intro v hv; simp only [List.mem_cons, List.not_mem_nil, or_false] at hv; subst hv; rfl) (by simp) rfl (by decide)) rfl fun b30 => ?_
        refine K_append1 1 ap2149 rfl rfl rfl rfl rfl rfl ⟨by omega, by omega⟩ rfl fun a31 k31 hn31 => ?_
        refine KV (R_assign rfl) rfl ?_
        refine K_nil ?_
        refine Q_then ?_
        refine K_region ?_
        refine KV (R_loadW ty2009 1 rfl rfl rfl rfl) rfl ?_
        refine K_storeW ty2009 2 rfl rfl rfl rfl rfl rfl rfl ?_
        refine K_nil ?_
        refine Q_block ?_
        refine KQ_sel [0, 1] rfl ?_
        refine Q_nextD (m / 1000000000, ps ++ [partOf m], _, .slice a31 (ps.length + 1) k31, .slice xa xk xc) ⟨hP.step hm0, by rw [List.length_append]; exact parts_half hb, fun p hp => by
          rcases List.mem_append.1 hp with hp | hp
          · exact h9 p hp
          · rw [List.mem_singleton.1 hp]; exact partOf_len m, hV.trans (hv1.trans (hv2.trans (hv3.trans hv4))), ⟨_, _, by rw [List.length_append]; rfl⟩, hN2.mono (hv3.trans hv4), by rw [List.length_append]; exact hfew⟩ (by dsimp only; exact Nat.div_lt_self hm0 (by decide)) ⟨rfl, trivial⟩ rfl (by dsimp only; rw [strs_snoc, List.length_append, show partOf m = (Go.Lib.decDigits (m % 1000000000)) from if_pos (Decidable.not_not.1 h21)]; rfl) rfl
    ·
      obtain rfl : m = 0 := by omega
      refine K_exit ?_
      refine Q_then_exit ?_
      refine Q_then_exit ?_
      refine Q_block_exit ?_
      refine Q_then ?_
      refine K_seq ?_
      refine K_region ?_
      refine KV (R_move rfl) rfl ?_
      refine KO_rowshape 0 rfl fun hsv => ?_
      obtain ⟨rg, rc, hwe⟩ : ∃ g cap, Value.slice wa ps.length wcp = .slice (some ⟨g, 0, none⟩) ps.length cap := by
        rcases hsv with ⟨h, h0⟩ | h
        · exact absurd (List.eq_nil_of_length_eq_zero h0) hP.some
        · exact h
      cases hwe
      refine K_callO (first := []) [_] [_] (List.Perm.refl _) c2164 rfl rfl rfl (rev_satO Tryz.lRev (zs := ps) rfl (by omega)) ?_
      rintro _ V6 q hv6 ⟨rfl, rfl⟩
      try dsimp only [List.cons_append, List.nil_append]
      refine K_nil ?_
      refine Q_then ?_
      refine K_seq ?_
      refine K_region ?_
      refine KV (R_move rfl) rfl ?_
      refine KO_front 0 rfl ?_
      refine KO_pubrowF fun V7 hv7 hrow hcap => ?_
      try dsimp only [List.eraseIdx]
      obtain ⟨qa, qc, hqe, hqle⟩ := hcap
      cases hqe
      have hrA := rowAt_at hrow
      have hjoin := join_satZ (H := V7) Tryz.lJoin Tryz.lJoinX (bk := rg) (o := 0) (c := wcp) (xs := ps.reverse) hrA (by rw [List.length_reverse]; exact hqle) (by rw [List.length_reverse]; omega) (by have := flat_len9 (ps := ps.reverse) (fun p hp => h9 p (List.mem_reverse.1 hp)); rw [List.length_reverse] at this; omega)
      rw [List.length_reverse] at hjoin
      refine K_callZ rfl c2165 rfl rfl hjoin ?_
      rintro _ V8 hv8 ⟨rfl, rfl⟩
      refine KV (R_assign rfl) rfl ?_
      refine K_nil ?_
      refine Q_then ?_
      refine K_ret ?_
      refine results_gen (rs := [.tmp 2]) (vs := [_]) rfl ⟨rfl, trivial⟩ ?_
      exact congrArg strV hP.done
end Go.Proofs.X

namespace Go.Proofs.X
open Go Pal Go.Proofs
attribute [local irreducible] Pal.KO Pal.KC Pal.KQ Pal.KD
theorem c2110 : callable Tryz.prog F2110 = true := by kernel_rfl
theorem c2145 : callable Tryz.prog F2145 = true := by kernel_rfl
theorem c2146 : callable Tryz.prog F2146 = true := by kernel_rfl
theorem c2150 : callable Tryz.prog F2150 = true := by kernel_rfl
theorem c2152 : callable Tryz.prog F2152 = true := by kernel_rfl
set_option maxRecDepth 8000 in
set_option maxHeartbeats 2000000 in
theorem count_law (d : Dt) (hb : d.ranks.length ≤ 1048576 ∧ d.acc.length ≤ 1048576 ∧ d.to.length ≤ 1048576 ∧ ∀ x ∈ d.to, x.length ≤ 1048576) (size : Int) (v1 v2 v3 : Value) (H : View) (hd : RepDt H d v1 v2 v3) (hT : TabN Tryz.prog H) : SatZ Tryz.prog F2144 #[.agg #[v1, v2, v3], .int .i64 size] H (fun r _ => r = .bool true) := by
  obtain ⟨ua1, uc1x, rfl⟩ := hd.r.shape
  obtain ⟨ua2, uc2x, rfl⟩ := hd.a.shape
  obtain ⟨ua3, uc3x, rfl⟩ := hd.t.shape
  refine enterZ (n := 68) (args := [.agg #[.slice ua1 d.ranks.length uc1x, .slice ua2 d.acc.length uc2x, .slice ua3 d.to.length uc3x], .int .i64 size]) Tryz.func3 rfl rfl rfl fun w0 => ?_
  refine K_seq ?_
  refine K_region ?_
  refine KA (A_box rfl) rfl fun b2 => ?_
  refine KV (R_assign rfl) rfl ?_
  refine K_nil ?_
  refine Q_then ?_
  refine K_seq ?_
  refine K_seq ?_
  refine K_region ?_
  refine K_call c2145 rfl rfl (known36_spec H) ?_
  rintro _ V1 hv1 rfl
  refine KV (R_not rfl) rfl ?_
  refine K_nil ?_
  refine Q_then ?_
  refine K_ifB rfl (fun h11 => ?_) (fun h11 => ?_)
  ·
    cases h11
  ·
    refine K_skip ?_
    refine Q_then ?_
    refine K_seq ?_
    refine K_seq ?_
    refine K_region ?_
    refine KV (R_loadW ty2129 0 rfl rfl rfl rfl) rfl ?_
    refine K_call c2146 rfl rfl (fine_spec d hb _ _ _ V1 (hd.mono hv1)) ?_
    rintro _ V2 hv2 ⟨b13, rfl, hfine⟩
    refine KV (R_not rfl) rfl ?_
    refine K_nil ?_
    refine Q_then ?_
    refine K_ifB rfl (fun h14 => ?_) (fun h14 => ?_)
    ·
      refine K_seq ?_
      refine K_region ?_
      refine KV (R_assign rfl) rfl ?_
      refine K_nil ?_
      refine Q_then ?_
      refine K_ret ?_
      refine Q_then_ret ?_
      refine results_gen (rs := [.tmp 4]) (vs := [_]) rfl ⟨rfl, trivial⟩ ?_
      rfl
    ·
      obtain ⟨hn4, hr6, hde⟩ := hfine (by simpa using h14)
      have hok := DtOk.of hde
      refine K_skip ?_
      refine Q_then ?_
      refine K_seq ?_
      refine K_region ?_
      refine KV (R_loadW ty2129 0 rfl rfl rfl rfl) rfl ?_
      refine K_call c2148 rfl rfl (l36to_spec d hb _ _ _ V2 (hd.mono (hv1.trans hv2))) ?_
      rintro _ V3 hv3 ⟨w1, w2, w3, rfl, hw⟩
      refine KV (R_move rfl) rfl ?_
      refine K_call c2147 rfl rfl (counttrees_spec d hb (by omega) (by omega) size _ _ _ V3 hw) ?_
      rintro _ V4 hv4 ⟨xa, xk, xc, rfl, hN⟩
      refine KV (R_move rfl) rfl ?_
      refine KV (R_extract rfl rfl) rfl ?_
      refine KV (R_extract rfl rfl) rfl ?_
      refine KA (A_alloc z2009) rfl fun b5 => ?_
      refine K_storeW ty2009 0 rfl rfl rfl rfl rfl rfl rfl ?_
      refine KV (R_assign rfl) rfl ?_
      refine K_nil ?_
      refine Q_then ?_
      refine K_seq ?_
      refine K_seq ?_
      refine K_region ?_
      refine KV (R_move rfl) rfl ?_
      refine KV (R_cmp rfl rfl rfl) rfl ?_
      refine K_split ?_ ?_
      ·
        intro h23
        have hce := count_bad hde (Or.inl h23)
        refine KV (R_move rfl) rfl ?_
        refine K_gno rfl rfl rfl rfl ?_
        refine K_gno rfl rfl rfl rfl ?_
        refine KV (R_pickT rfl rfl) rfl ?_
        refine K_nil ?_
        refine Q_then ?_
        refine K_ifT rfl ?_
        refine K_seq ?_
        refine K_region ?_
        refine KV (R_move rfl) rfl ?_
        refine KV (R_cmp rfl rfl rfl) rfl ?_
        refine K_split ?_ ?_
        ·
          intro h29
          refine KV (R_move rfl) rfl ?_
          refine K_gyes rfl rfl ?_
          refine KV (R_loadW ty2009 0 rfl rfl rfl rfl) rfl ?_
          refine K_gyes rfl rfl ?_
          refine K_call c2149 rfl rfl (isz_spec _ _ V4 hN) ?_
          rintro _ V5 hv5 rfl
          rw [if_neg (by rw [hce]; decide), decide_eq_true rfl]
          refine KV (R_pickT rfl rfl) rfl ?_
          refine KV (R_assign rfl) rfl ?_
          refine K_nil ?_
          refine Q_then ?_
          refine K_ret ?_
          refine Q_then_ret ?_
          refine results_gen (rs := [.tmp 4]) (vs := [_]) rfl ⟨rfl, trivial⟩ ?_
          rfl
        ·
          intro h29
          exact absurd hce h29
      ·
        intro h23
        refine KV (R_move rfl) rfl ?_
        refine K_gyes rfl rfl ?_
        refine KV (R_move rfl) rfl ?_
        refine K_gyes rfl rfl ?_
        refine KV (R_cmp rfl rfl rfl) rfl ?_
        refine K_split ?_ ?_
        ·
          intro h26
          have hce := count_bad hde (Or.inr h26)
          refine KV (R_pickF rfl rfl) rfl ?_
          refine K_nil ?_
          refine Q_then ?_
          refine K_ifT rfl ?_
          refine K_seq ?_
          refine K_region ?_
          refine KV (R_move rfl) rfl ?_
          refine KV (R_cmp rfl rfl rfl) rfl ?_
          refine K_split ?_ ?_
          ·
            intro h29
            refine KV (R_move rfl) rfl ?_
            refine K_gyes rfl rfl ?_
            refine KV (R_loadW ty2009 0 rfl rfl rfl rfl) rfl ?_
            refine K_gyes rfl rfl ?_
            refine K_call c2149 rfl rfl (isz_spec _ _ V4 hN) ?_
            rintro _ V5 hv5 rfl
            rw [if_neg (by rw [hce]; decide), decide_eq_true rfl]
            refine KV (R_pickT rfl rfl) rfl ?_
            refine KV (R_assign rfl) rfl ?_
            refine K_nil ?_
            refine Q_then ?_
            refine K_ret ?_
            refine Q_then_ret ?_
            refine results_gen (rs := [.tmp 4]) (vs := [_]) rfl ⟨rfl, trivial⟩ ?_
            rfl
          ·
            intro h29
            exact absurd hce h29
        ·
          intro h26
          have hce0 : countErr d size = 0 := by
            unfold countErr
            rw [if_neg (not_not_intro hde), if_neg (by omega)]
          refine KV (R_pickF rfl rfl) rfl ?_
          refine K_nil ?_
          refine Q_then ?_
          refine K_ifF rfl ?_
          refine K_skip ?_
          refine Q_then ?_
          refine K_seq ?_
          refine K_seq ?_
          refine K_region ?_
          refine KV (R_move rfl) rfl ?_
          refine KV (R_cmp rfl rfl rfl) rfl ?_
          refine K_nil ?_
          refine Q_then ?_
          refine K_if rfl (fun h35 => ?_) (fun h35 => ?_)
          ·
            refine K_seq ?_
            refine K_region ?_
            refine KV (R_move rfl) rfl ?_
            refine KV (R_cmp rfl rfl rfl) rfl ?_
            refine K_split ?_ ?_
            ·
              intro h37
              refine KV (R_assign rfl) rfl ?_
              refine K_nil ?_
              refine Q_then ?_
              refine K_ret ?_
              refine Q_then_ret ?_
              refine results_gen (rs := [.tmp 4]) (vs := [_]) rfl ⟨rfl, trivial⟩ ?_
              rfl
            ·
              intro h37
              exact absurd hce0 h37
          ·
            refine K_skip ?_
            refine Q_then ?_
            refine K_seq ?_
            refine K_region ?_
            refine KV (R_assign rfl) rfl ?_
            refine K_nil ?_
            obtain ⟨k, rfl⟩ : ∃ k : Nat, size = (k : Int) := ⟨size.toNat, by omega⟩
            rw [if_pos hce0, Int.toNat_natCast] at hN
            refine Q_then ?_
            refine K_seq ?_
            refine K_region ?_
            refine KV (R_loadW ty2129 1 rfl rfl rfl rfl) rfl ?_
            refine KV (R_move rfl) rfl ?_
            refine K_call c2150 rfl rfl (many_spec d hb hok (by omega) (by omega) k (by omega) _ _ _ V4 (hd.mono (hv1.trans (hv2.trans (hv3.trans (hv4)))))) ?_
            rintro lv V5 hv5 hlv
            obtain ⟨ya, yk, yc, ycs, rfl, hyA, hyR⟩ := id hlv
            refine KV (R_assign rfl) rfl ?_
            refine K_nil ?_
            refine Q_then ?_
            refine K_seq ?_
            refine K_seq ?_
            refine K_region ?_
            refine KV (R_assign rfl) rfl ?_
            refine K_nil ?_
            refine Q_then ?_
            refine K_block ?_
            refine K_loopD (G := Nat × View × Value) [7, 9, 41, 42, 43, 44, 45, 46, 47, 48, 49, 50, 51, 52, 53, 54, 55, 56, 57, 58] (fun g => [(9, .int .i64 (g.1 : Int)), (7, g.2.2)]) (fun hl g => hl) (fun g => g.2.1) (fun g => (g.1 ≤ d.acc.length) ∧ (VLe V5 g.2.1) ∧ (RepD g.2.1 g.2.2 (sumN g.1 fun x => if d.acc.getD x false = true then cD d k (x : Int) else 0))) (fun g => d.acc.length - g.1) (0, V5, .slice none 0 0) ⟨Nat.zero_le _, VLe.refl _, RepD.zero _⟩ ⟨rfl, rfl, trivial⟩ (by simp only [args0, Nat.reduceAdd, del, memN, beqN, Nat.reduceBEq, cond_true, cond_false]; rfl) rfl rfl ?_
            rintro ⟨q, V, w⟩ ⟨hq, hV, hW⟩
            dsimp only at hq hV hW
            dsimp only [List.set, List.cons_append, List.nil_append]
            refine K_seq ?_
            refine K_seq ?_
            refine K_region ?_
            refine KV (R_move rfl) rfl ?_
            refine KV (R_fieldAddr 1 fd2129_1 rfl) rfl ?_
            refine KV (R_loadO ty52 1 rfl rfl rfl rfl (fun _ => rfl) rfl) rfl ?_
            refine KV (R_len sl52 rfl) rfl ?_
            refine KV (R_cmp rfl rfl rfl) rfl ?_
            refine K_nil ?_
            refine Q_then ?_
            refine K_if rfl (fun h45 => ?_) (fun h45 => ?_)
            ·
              have hq' : q < d.acc.length := by omega
              obtain ⟨qb, qo, hqe, hqa⟩ := (hd.mono ((hv1.trans (hv2.trans (hv3.trans (hv4.trans (hv5))))).trans hV)).a.get hq'
              cases hqe
              have hgq : d.acc.getD q false = d.acc[q] := by simp [List.getD, hq']
              refine K_skip ?_
              refine Q_then ?_
              refine K_seq ?_
              refine K_block ?_
              refine K_seq ?_
              refine K_region ?_
              refine KV (R_fieldAddr 1 fd2129_1 rfl) rfl ?_
              refine KV (R_loadO ty52 1 rfl rfl rfl rfl (fun _ => rfl) rfl) rfl ?_
              refine KV (R_move rfl) rfl ?_
              refine KV (R_indexN sl52 ty4 rfl rfl (by omega)) rfl ?_
              refine KV (R_loadH ty4 rfl (hqa) rfl (fun _ => rfl) rfl) rfl ?_
              refine K_nil ?_
              refine Q_then ?_
              refine K_ifB rfl (fun h52 => ?_) (fun h52 => ?_)
              ·
                obtain ⟨mb, mo, mv, hme, hmA, hmR⟩ := (LvAt.mono hlv hV).get hq'
                cases hme
                refine K_region ?_
                refine KV (R_move rfl) rfl ?_
                refine KV (R_move rfl) rfl ?_
                refine KV (R_move rfl) rfl ?_
                refine KV (R_indexN sl2134 ty2133 rfl rfl (by omega)) rfl ?_
                refine KV (R_loadH ty2133 rfl (hmA) rfl (fun _ => rfl) rfl) rfl ?_
                refine K_call c2151 rfl rfl (addD_spec _ _ _ _ V hW hmR (sumA_part (by omega) (by omega) (by omega) hq).1 (cD_small (by omega) (by omega) (by omega) _)) ?_
                rintro w58 U1 hu1 h58
                refine KV (R_assign rfl) rfl ?_
                refine K_nil ?_
                refine Q_block ?_
                refine Q_then ?_
                refine K_region ?_
                refine KV (R_move rfl) rfl ?_
                refine KV (R_add rfl rfl (by omega)) rfl ?_
                refine KV (R_assign rfl) rfl ?_
                refine K_nil ?_
                refine Q_nextD (q + 1, U1, w58) ⟨hq', hV.trans hu1, by rw [sumN_succ, if_pos (by rw [hgq]; exact h52)]; exact h58⟩ (by (try dsimp only); omega) ⟨rfl, rfl, trivial⟩ rfl rfl rfl
              ·
                refine K_skip ?_
                refine Q_block ?_
                refine Q_then ?_
                refine K_region ?_
                refine KV (R_move rfl) rfl ?_
                refine KV (R_add rfl rfl (by omega)) rfl ?_
                refine KV (R_assign rfl) rfl ?_
                refine K_nil ?_
                refine Q_nextD (q + 1, V, w) ⟨hq', hV, by rw [sumN_succ, if_neg (by rw [hgq]; intro e; rw [h52] at e; cases e), Nat.add_zero]; exact hW⟩ (by (try dsimp only); omega) ⟨rfl, rfl, trivial⟩ rfl rfl rfl
            ·
              obtain rfl : q = d.acc.length := by omega
              refine K_exit ?_
              refine Q_then_exit ?_
              refine Q_then_exit ?_
              refine Q_block_exit ?_
              refine Q_then ?_
              refine K_seq ?_
              refine K_region ?_
              refine KV (R_move rfl) rfl ?_
              refine KV (R_cmp rfl rfl rfl) rfl ?_
              refine K_split ?_ ?_
              ·
                intro h60
                refine KV (R_move rfl) rfl ?_
                refine K_gyes rfl rfl ?_
                refine KV (R_loadW ty2009 0 rfl rfl rfl rfl) rfl ?_
                refine K_gyes rfl rfl ?_
                refine K_callZ rfl c2110 rfl rfl (string_spec (sumA d k) _ V (hN.mono (hv5.trans hV)) (sumA_big (by omega) (by omega) (by omega)) (sumA_part (by omega) (by omega) (by omega) (Nat.le_refl _)).2 (hT.mono (hv1.trans (hv2.trans (hv3.trans (hv4.trans (hv5.trans hV))))))) ?_
                rintro _ V6 hv6 rfl
                obtain ⟨ds, hdC, hdv, hdW⟩ := hW
                refine K_gyes rfl rfl ?_
                refine KV (R_move rfl) rfl ?_
                refine K_gyes rfl rfl ?_
                refine K_call c2152 rfl rfl (text02_spec ds _ V6 (hdW.mono hv6) hdC (by have := len_lt hdC (k := 60) (by rw [hdv]; exact (sumA_part (by omega) (by omega) (by omega) (Nat.le_refl _)).1); omega)) ?_
                rintro _ V7 hv7 rfl
                refine K_gyes rfl rfl ?_
                refine KV (R_eqS rfl rfl (by rw [hdv]; rfl)) rfl ?_
                refine KV (R_pickT rfl rfl) rfl ?_
                refine KV (R_assign rfl) rfl ?_
                refine K_nil ?_
                refine Q_then ?_
                refine K_ret ?_
                refine results_gen (rs := [.tmp 4]) (vs := [_]) rfl ⟨rfl, trivial⟩ ?_
                rfl
              ·
                intro h60
                exact absurd hce0 h60
end Go.Proofs.X

/-
  Reading arguments, by their types: slices, rules, automata. Own work. No statement of the seat is proved here.
-/
namespace Pal
open Go Go.ChangeShapes Go.WideShapes Go.RowKit
section
variable {H : Type} {enc : TypeId × Value → H} {P : Program} {w : World} {sp : Nat → Bool} {held : Bool}
/-- Every reading at type t is of some y, laid asx R says, and no greater than B says of the reading's measure. -/
def RdAt {α : Type} (enc : TypeId × Value → H) (P : Program) (w : World) (sp : Nat → Bool) (held : Bool) (f : DataW H → Nat) (t : TypeId) (R : α → List Value → Prop) (B : α → Nat → Prop) : Prop :=
  ∀ (fuel : Nat) (cs : List Value) (x : DataW H × List MemPlace), DataW.trod enc P w 0 sp held fuel t cs = some x → ∃ y, R y cs ∧ B y (f x.1)
structure Bulk1 (f : DataW H → Nat) (g : List (DataW H) → Nat) : Prop where
  b : Bulk f g
  pos : ∀ d, 1 ≤ f d
theorem Bulk1.len {f : DataW H → Nat} {g : List (DataW H) → Nat} (hB : Bulk1 f g) : ∀ ds : List (DataW H), ds.length ≤ g ds
  | [] => by simp
  | d :: r => by have := hB.len r; have := hB.pos d; rw [hB.b.cons, List.length_cons]; omega
theorem Bulk1.mem {f : DataW H → Nat} {g : List (DataW H) → Nat} (hB : Bulk1 f g) : ∀ {ds : List (DataW H)} {d : DataW H}, d ∈ ds → f d ≤ g ds
  | [], _, h => by cases h
  | e :: r, d, h => by
    rw [hB.b.cons]
    rcases List.mem_cons.1 h with rfl | h
    · omega
    · have := hB.mem h; omega
theorem rd_int {f : DataW H → Nat} {t : TypeId} (ht : P.underlying t = some (.int .i64)) : RdAt enc P w sp held f t RI (fun _ _ => True) := by
  intro fuel cs x h
  obtain ⟨n, h1, h2⟩ := read_int ht h
  exact ⟨n, ⟨h2, h1⟩, trivial⟩
theorem rd_bool {f : DataW H → Nat} {t : TypeId} (ht : P.underlying t = some .bool) : RdAt enc P w sp held f t RB (fun _ _ => True) := by
  intro fuel cs x h
  obtain ⟨b, h1, _⟩ := DataW.trod_bool ht h
  exact ⟨b, h1, trivial⟩
def RSl {α : Type} (Hv : View) (R : α → List Value → Prop) (sz : Nat) (xs : List α) (cs : List Value) : Prop := ∃ v cells, cs = [v] ∧ SlAt Hv v xs.length cells ∧ RepL R sz xs cells
def BSl {α : Type} (B : α → Nat → Prop) (xs : List α) (n : Nat) : Prop := xs.length ≤ n ∧ ∀ x ∈ xs, B x n
theorem repL_range {α : Type} {R : α → List Value → Prop} {sz : Nat} {T : Nat → α} {rc : Nat → List Value} : ∀ {n : Nat}, (∀ i, i < n → R (T i) (rc i) ∧ (rc i).length = sz) → RepL R sz ((List.range n).map T) ((List.range n).flatMap rc)
  | 0, _ => .nil
  | n + 1, h => by
    rw [range_map_succ, List.range_succ, List.flatMap_append]
    simp only [List.flatMap_cons, List.flatMap_nil, List.append_nil]
    exact (repL_range fun i hi => h i (by omega)).snoc (h n (by omega)).1 (h n (by omega)).2
theorem rd_slice {α : Type} [Inhabited α] {f : DataW H → Nat} {g : List (DataW H) → Nat} (hB : Bulk1 f g) {t e : TypeId} {sz : Nat} {R : α → List Value → Prop} {B : α → Nat → Prop} (hm : ∀ y n m, n ≤ m → B y n → B y m) (ht : P.underlying t = some (.slice e)) (hce : P.cellsOf e = sz) (hsz : 0 < sz)
    (hR : RdAt enc P w sp held f e R B) : RdAt enc P w sp held f t (RSl (heapOf w) R sz) (BSl B) := by
  intro fuel cs x h
  obtain ⟨a, len, cap, b, off, elems, rest, rc, rfl, hlen, ha, hx, hel⟩ := read_slice ht hce hsz h
  have hsub : ∀ i (hi : i < elems.length), ∃ y, R y (rc i) ∧ B y (f elems[i].1) := by
    intro i hi
    obtain ⟨_, _, m, _, h3⟩ := hel i hi
    exact hR m _ _ h3
  let T : Nat → α := fun i => if h : i < elems.length then Classical.choose (hsub i h) else default
  have hT : ∀ i (hi : i < elems.length), R (T i) (rc i) ∧ B (T i) (f elems[i].1) := by
    intro i hi
    simp only [T, hi, dif_pos]
    exact Classical.choose_spec (hsub i hi)
  refine ⟨(List.range len).map T, ⟨_, (List.range len).flatMap rc, rfl, ⟨a, cap, by simp, ?_⟩, repL_range fun i hi => ⟨(hT i (by omega)).1, (hel i (by omega)).1⟩⟩, ?_, ?_⟩
  · rcases Nat.eq_zero_or_pos len with h0 | h0
    · subst h0; exact .inl ⟨by simp, by simp⟩
    · exact .inr ⟨b, off, ha h0, At.join hsz h0 fun i hi => ⟨(hel i (by omega)).1, (hel i (by omega)).2.1⟩⟩
  · rw [List.length_map, List.length_range]
    rcases hx with ⟨_, h0⟩ | hx
    · omega
    · rw [hx, hB.b.sl]
      have := hB.len (elems.map (·.1))
      rw [List.length_map] at this
      omega
  · intro y hy
    obtain ⟨i, hi, rfl⟩ := List.mem_map.1 hy
    have hi' := List.mem_range.1 hi
    refine hm _ _ _ ?_ (hT i (by omega)).2
    rcases hx with ⟨_, h0⟩ | hx
    · omega
    · rw [hx, hB.b.sl]
      have := hB.mem (List.mem_map_of_mem (f := fun (p : DataW H × List MemPlace) => p.1) (List.getElem_mem (show i < elems.length by omega)))
      omega
/-- A struct's fields, each at its own place, one cell each. -/
def FldT (P : Program) (fd : Field) (t : TypeId) (o : Nat) : Prop := fd.type = t ∧ fd.offset = o
theorem RSl.si {Hv : View} {xs : List Int} {cs : List Value} (h : RSl Hv RI 1 xs cs) : ∃ v, cs = [v] ∧ SI Hv v xs := by
  obtain ⟨v, cells, rfl, h1, h2⟩ := h
  obtain ⟨rfl, h3⟩ := h2.eq_ints
  exact ⟨v, rfl, h1, h3⟩
theorem RepL.eq_bools {xs : List Bool} {cells : List Value} (h : RepL RB 1 xs cells) : cells = bools xs := by
  induction h with
  | nil => rfl
  | cons h _ _ ih => rw [h, ih]; rfl
theorem RSl.sb {Hv : View} {xs : List Bool} {cs : List Value} (h : RSl Hv RB 1 xs cs) : ∃ v, cs = [v] ∧ SB Hv v xs := by
  obtain ⟨v, cells, rfl, h1, h2⟩ := h
  have := h2.eq_bools
  subst this
  exact ⟨v, rfl, h1⟩
theorem RSl.ssi {Hv : View} {xss : List (List Int)} {cs : List Value} (h : RSl Hv (RSl Hv RI 1) 1 xss cs) : ∃ v, cs = [v] ∧ SSI Hv v xss := by
  obtain ⟨v, cells, rfl, h1, h2⟩ := h
  exact ⟨v, rfl, cells, h1, h2.imp fun xs cs hx => by
    obtain ⟨u, h3, h4⟩ := hx.si
    exact ⟨u, h3, h4⟩⟩
instance : Inhabited Rl := ⟨⟨0, [], 0⟩⟩
/-- ranks, final, to -/
structure DtaT (P : Program) (t ts tb tss ti tbool : TypeId) : Prop where
  u : ∃ f1 f2 f3 : Field, P.underlying t = some (.struct #[f1, f2, f3]) ∧ FldT P f1 ts 0 ∧ FldT P f2 tb 1 ∧ FldT P f3 tss 2
  us : P.underlying ts = some (.slice ti)
  ub : P.underlying tb = some (.slice tbool)
  uss : P.underlying tss = some (.slice ts)
  ui : P.underlying ti = some (.int .i64)
  ubo : P.underlying tbool = some .bool
  ct : P.cellsOf t = 3
  cs : P.cellsOf ts = 1
  cb : P.cellsOf tb = 1
  css : P.cellsOf tss = 1
  ci : P.cellsOf ti = 1
  cbo : P.cellsOf tbool = 1
theorem rd_dta {f : DataW H → Nat} {g : List (DataW H) → Nat} (hB : Bulk1 f g) {t ts tb tss ti tbool : TypeId} (hT : DtaT P t ts tb tss ti tbool) : RdAt (α := Dt) enc P w sp held f t (fun d cs => ∃ v1 v2 v3, cs = [v1, v2, v3] ∧ RepDt (heapOf w) d v1 v2 v3)
    (fun d n => d.ranks.length ≤ n ∧ d.acc.length ≤ n ∧ d.to.length ≤ n ∧ ∀ x ∈ d.to, x.length ≤ n) := by
  obtain ⟨f1, f2, f3, hu, ⟨t1, o1⟩, ⟨t2, o2⟩, ⟨t3, o3⟩⟩ := hT.u
  intro fuel cs x h
  obtain ⟨xs, n, rfl, rfl, hcl, hxl, hxs⟩ := DataW.trod_struct hu h
  rw [hT.ct] at hcl
  obtain ⟨c0, c1, c2, rfl⟩ : ∃ c0 c1 c2, cs = [c0, c1, c2] := by
    match cs, hcl with
    | [a, b, c], _ => exact ⟨a, b, c, rfl⟩
  obtain ⟨y0, y1, y2, rfl⟩ : ∃ y0 y1 y2, xs = [y0, y1, y2] := by
    match xs, hxl with
    | [a, b, c], _ => exact ⟨a, b, c, rfl⟩
  have h0 := hxs 0 f1 rfl
  have h1 := hxs 1 f2 rfl
  have h2 := hxs 2 f3 rfl
  rw [t1, o1, hT.cs] at h0
  rw [t2, o2, hT.cb] at h1
  rw [t3, o3, hT.css] at h2
  obtain ⟨rs, hr, hrb, _⟩ := rd_slice hB (fun _ _ _ _ _ => trivial) hT.us hT.ci (by decide) (rd_int hT.ui) _ _ _ h0
  obtain ⟨bs, hbs, hbb, _⟩ := rd_slice hB (fun _ _ _ _ _ => trivial) hT.ub hT.cbo (by decide) (rd_bool hT.ubo) _ _ _ h1
  obtain ⟨ts', hts, htb, htb2⟩ := rd_slice (B := BSl fun _ _ => True) hB (fun _ _ _ h1 h2 => ⟨Nat.le_trans h2.1 h1, h2.2⟩) hT.uss hT.cs (by decide) (rd_slice hB (fun _ _ _ _ _ => trivial) hT.us hT.ci (by decide) (rd_int hT.ui)) _ _ _ h2
  obtain ⟨v1, e0, hv1⟩ := hr.si
  obtain ⟨v2, e1, hv2⟩ := hbs.sb
  obtain ⟨v3, e2, hv3⟩ := hts.ssi
  have e0' : c0 = v1 := by simpa using e0
  have e1' : c1 = v2 := by simpa using e1
  have e2' : c2 = v3 := by simpa using e2
  subst e0' e1' e2'
  have hsum : f (.agg ([y0, y1, y2].map (·.1))) = f y0.1 + (f y1.1 + (f y2.1 + 0)) + 1 := by
    simp only [List.map_cons, List.map_nil, hB.b.agg, hB.b.cons, hB.b.nil]
  refine ⟨⟨rs, bs, ts'⟩, ⟨_, _, _, rfl, hv1, hv2, hv3⟩, ?_⟩
  dsimp only
  rw [hsum]
  exact ⟨by omega, by omega, by omega, fun x hx => by have := (htb2 x hx).1; omega⟩
theorem agg_of {v : Value} {cs : List Value} (h : v.cells.toList = cs) (hl : cs.length ≠ 1) : v = .agg cs.toArray := by
  subst h
  cases v with
  | agg c => rfl
  | _ => exact absurd rfl hl
theorem okw_agg {base : Nat} {t : TypeId} {c2 : Array Value} (ht : (∃ e, P.underlying t = some (.slice e)) ∨ ∃ k, P.underlying t = some (.int k)) (h : Value.okWide P w .any base t (.agg c2)) : False := by
  unfold Value.okWide at h
  rcases ht with ⟨e, ht⟩ | ⟨k, ht⟩ <;>
  · rw [ht] at h
    unfold Cell.okWide at h
    rw [ht] at h
    dsimp only at h
    unfold Cell.ok at h
    rw [ht] at h
    exact h
theorem okw_cell {base : Nat} {t : TypeId} {v u : Value} (ht : (∃ e, P.underlying t = some (.slice e)) ∨ ∃ k, P.underlying t = some (.int k)) (h : Value.okWide P w .any base t v) (hc : v.cells.toList = [u]) : v = u := by
  cases v with
  | agg c2 => exact (okw_agg ht h).elim
  | _ => exact List.head_eq_of_cons_eq hc
end
end Pal
