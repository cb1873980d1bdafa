/-
  Part of the proof: rules for walks, contracts of the functions that the statements reach, plain laws. Own work. No statement of the seat is proved here.
-/
import Derived.Test.YtbelekbnjiajaaaDoorPart1
namespace Go.Proofs.X
open Go Pal Go.Proofs
attribute [local irreducible] Pal.KO Pal.KC Pal.KQ Pal.KD
theorem z0 : zeroOk Tryd.prog T0 (.tuple #[]) := .of (by kernel_rfl)
theorem z1 : zeroOk Tryd.prog T1 (.nilFunc) := .of (by kernel_rfl)
theorem z2 : zeroOk Tryd.prog T2 (.int .i64 0) := .of (by kernel_rfl)
theorem c7 : callable Tryd.prog F7 = true := by kernel_rfl
theorem relabel_law (t : Tr) (to : List Int) (tv : Value) (H : View) (cs : List Value) (hT : Tab H) (hr : RepT H t cs) (hto : SI H tv to) (hb : t.size ≤ 1073741824) (hl : to.length ≤ 1099511627776) : Sat Tryd.prog F3 #[.agg cs.toArray, tv] H (fun v _ => v = .bool true) := by
  obtain ⟨x0, x1, x2, x3, rfl⟩ := hr.shape
  obtain ⟨ta, tc, rfl⟩ := hto.shape
  have hpos := t.size_pos
  refine enterO (n := 58) (args := [.agg #[.int .i64 x0, .slice x1 x2 x3], .slice ta to.length tc]) Tryd.func3 rfl rfl rfl fun w0 => ?_
  refine K_seq ?_
  refine K_region ?_
  refine KA (A_box rfl) rfl fun b2 => ?_
  refine KV (R_assign rfl) rfl ?_
  refine K_nil ?_
  refine Q_then ?_
  refine K_seq ?_
  refine K_seq ?_
  refine K_region ?_
  refine K_call c7 rfl rfl (known_spec H hT) ?_
  rintro _ V1 hv1 rfl
  refine KV (R_not rfl) rfl ?_
  refine KV (R_move rfl) rfl ?_
  refine K_splitB ?_ ?_
  ·
    intro h11
    cases h11
  ·
    intro h11
    refine K_gyes rfl rfl ?_
    refine KV (R_loadO ty24 0 rfl rfl rfl rfl (fun e => by cases e) rfl) rfl ?_
    refine K_gyes rfl rfl ?_
    refine K_call c8 rfl rfl (size_spec t.size t V1 _ (Nat.le_refl _) (by omega) (hr.mono hv1)) ?_
    rintro _ V2 hv2 rfl
    refine K_gyes rfl rfl ?_
    refine KV (R_cmp rfl rfl rfl) rfl ?_
    refine KV (R_pickF rfl rfl) rfl ?_
    refine KV (R_move rfl) rfl ?_
    refine K_split ?_ ?_
    ·
      intro h16
      refine K_gno rfl rfl rfl rfl ?_
      refine K_gno rfl rfl rfl rfl ?_
      refine K_gno rfl rfl rfl rfl ?_
      refine KV (R_pickT rfl rfl) rfl ?_
      refine KV (R_move rfl) rfl ?_
      refine K_gno rfl rfl rfl rfl ?_
      refine K_gno rfl rfl rfl rfl ?_
      refine K_gno rfl rfl rfl rfl ?_
      refine KV (R_pickT rfl rfl) rfl ?_
      refine K_nil ?_
      refine Q_then ?_
      refine K_ifT rfl ?_
      refine K_seq ?_
      refine K_region ?_
      refine K_call c7 rfl rfl (known_spec _ (hT.mono (by first | exact hv1.trans hv2 | exact hv1.trans (hv2.trans hv3)))) ?_
      rintro _ V9 hv9 rfl
      refine KV (R_assign rfl) rfl ?_
      refine K_nil ?_
      refine Q_then ?_
      refine K_ret ?_
      refine Q_then_ret ?_
      refine results_gen (rs := [.tmp 4]) (vs := [_]) rfl ⟨rfl, trivial⟩ ?_
      first | rfl | (rw [Tr.cmp_self]; rfl) | (simp only [tupV]; rw [Tr.cmp_self]; rfl)
    ·
      intro h16
      refine K_gyes rfl rfl ?_
      refine KV (R_loadO ty24 0 rfl rfl rfl rfl (fun e => by cases e) rfl) rfl ?_
      refine K_gyes rfl rfl ?_
      refine K_call c9 rfl rfl (deep_spec t.size t V2 _ (Nat.le_refl _) (by omega) (hr.mono (hv1.trans hv2))) ?_
      rintro _ V3 hv3 rfl
      refine K_gyes rfl rfl ?_
      refine KV (R_cmp rfl rfl rfl) rfl ?_
      refine KV (R_pickF rfl rfl) rfl ?_
      refine KV (R_move rfl) rfl ?_
      refine K_split ?_ ?_
      ·
        intro h21
        refine K_gno rfl rfl rfl rfl ?_
        refine K_gno rfl rfl rfl rfl ?_
        refine K_gno rfl rfl rfl rfl ?_
        refine KV (R_pickT rfl rfl) rfl ?_
        refine K_nil ?_
        refine Q_then ?_
        refine K_ifT rfl ?_
        refine K_seq ?_
        refine K_region ?_
        refine K_call c7 rfl rfl (known_spec _ (hT.mono (by first | exact hv1.trans hv2 | exact hv1.trans (hv2.trans hv3)))) ?_
        rintro _ V9 hv9 rfl
        refine KV (R_assign rfl) rfl ?_
        refine K_nil ?_
        refine Q_then ?_
        refine K_ret ?_
        refine Q_then_ret ?_
        refine results_gen (rs := [.tmp 4]) (vs := [_]) rfl ⟨rfl, trivial⟩ ?_
        first | rfl | (rw [Tr.cmp_self]; rfl) | (simp only [tupV]; rw [Tr.cmp_self]; rfl)
      ·
        intro h21
        refine K_gyes rfl rfl ?_
        refine KV (R_move rfl) rfl ?_
        refine K_gyes rfl rfl ?_
        refine KV (R_len sl25 rfl) rfl ?_
        refine K_gyes rfl rfl ?_
        refine KV (R_cmp rfl rfl rfl) rfl ?_
        refine KV (R_pickF rfl rfl) rfl ?_
        refine K_nil ?_
        refine Q_then ?_
        refine K_if rfl (fun h25 => ?_) (fun h25 => ?_)
        ·
          refine K_seq ?_
          refine K_region ?_
          refine K_call c7 rfl rfl (known_spec _ (hT.mono (by first | exact hv1.trans hv2 | exact hv1.trans (hv2.trans hv3)))) ?_
          rintro _ V9 hv9 rfl
          refine KV (R_assign rfl) rfl ?_
          refine K_nil ?_
          refine Q_then ?_
          refine K_ret ?_
          refine Q_then_ret ?_
          refine results_gen (rs := [.tmp 4]) (vs := [_]) rfl ⟨rfl, trivial⟩ ?_
          first | rfl | (rw [Tr.cmp_self]; rfl) | (simp only [tupV]; rw [Tr.cmp_self]; rfl)
        ·
          refine K_skip ?_
          refine Q_then ?_
          refine K_seq ?_
          refine K_region ?_
          refine KV (R_loadO ty24 0 rfl rfl rfl rfl (fun e => by cases e) rfl) rfl ?_
          refine K_call c11 rfl rfl (tree_spec t.size t V3 _ (Nat.le_refl _) (by omega) (hr.mono (hv1.trans (hv2.trans hv3)))) ?_
          rintro _ V4 hv4 ⟨ds0, rfl, hd0⟩
          refine KV (R_move rfl) rfl ?_
          refine K_call c10 rfl rfl (relabel_spec to _ t.size t V4 _ (Nat.le_refl _) (by omega) hd0 (hto.mono (hv1.trans (hv2.trans (hv3.trans hv4))))) ?_
          rintro _ V5 hv5 ⟨ds, e, rfl, hres⟩
          obtain ⟨he, hR⟩ : e = (if (Tr.relabel to t).isSome then 0 else 6) ∧ RepT V5 ((Tr.relabel to t).getD (.node 0 [])) ds := by
            revert hres
            cases Tr.relabel to t with
            | none => exact fun h => h
            | some u => exact fun h => h
          obtain ⟨y0, y1, y2, y3, rfl⟩ := hR.shape
          refine KV (R_move rfl) rfl ?_
          refine KV (R_extract rfl rfl) rfl ?_
          refine KV (R_extract rfl rfl) rfl ?_
          refine KA (A_alloc z30) rfl fun b5 => ?_
          refine K_store ty30 0 rfl rfl rfl rfl rfl rfl ?_
          refine KV (R_assign rfl) rfl ?_
          refine K_nil ?_
          refine Q_then ?_
          refine K_seq ?_
          refine K_region ?_
          refine KV (R_loadO ty24 1 rfl rfl rfl rfl (fun e => by cases e) rfl) rfl ?_
          refine KV (R_move rfl) rfl ?_
          refine K_call c12 rfl rfl (rrelabel_spec to _ t.size t V5 _ (Nat.le_refl _) (by omega) (hr.mono (hv1.trans (hv2.trans (hv3.trans (hv4.trans hv5))))) (hto.mono (hv1.trans (hv2.trans (hv3.trans (hv4.trans hv5)))))) ?_
          rintro _ V6 hv6 ⟨ds2, r, rfl, hres2⟩
          obtain ⟨hrr, hR2⟩ : r = (Tr.relabel to t).isSome ∧ RepT V6 ((Tr.relabel to t).getD (.node 0 [])) ds2 := by
            revert hres2
            cases Tr.relabel to t with
            | none => exact fun h => h
            | some u => exact fun h => h
          obtain ⟨z0, z1, z2, z3, rfl⟩ := hR2.shape
          have hus : ((Tr.relabel to t).getD (.node 0 [])).size ≤ 1073741824 := by
            cases hrl : Tr.relabel to t with
            | none => decide
            | some u => have := Tr.relabel_size _ _ hrl; simp only [Option.getD_some]; omega
          generalize (Tr.relabel to t).getD (.node 0 []) = u at hR hR2 hus
          refine KV (R_move rfl) rfl ?_
          refine KV (R_extract rfl rfl) rfl ?_
          refine KV (R_extract rfl rfl) rfl ?_
          refine KA (A_alloc z24) rfl fun b7 => ?_
          refine K_store ty24 0 rfl rfl rfl rfl rfl rfl ?_
          refine KV (R_assign rfl) rfl ?_
          refine K_nil ?_
          refine Q_then ?_
          refine K_seq ?_
          refine K_regionD (fin := false) (R := [0, 1, 2, 3, 4, 5, 6, 7, 8, 9, 10, 11, 12, 14, 13, 15, 16, 17, 18]) (by kernel_rfl) mixed (.cons_cons _ (.cons_cons _ (.cons_cons _ (List.nil_sublist _)))) ?_
          refine D_val rfl rfl rfl (R_move rfl) ?_
          refine D_val rfl rfl rfl (R_cmp rfl rfl rfl) ?_
          refine D_val rfl rfl rfl (R_move rfl) ?_
          refine D_val rfl rfl rfl (R_boolEq (by kernel_rfl) rfl rfl) ?_
          refine D_val rfl rfl rfl (R_move rfl) ?_
          refine D_splitB ?_ ?_
          ·
            intro h44
            refine D_val rfl rfl rfl (R_move rfl) ?_
            refine D_val rfl rfl rfl (R_move rfl) ?_
            refine D_splitB ?_ ?_
            ·
              intro h46
              refine D_skip rfl rfl ?_
              refine D_skip rfl rfl ?_
              refine D_val rfl rfl rfl (R_pickT rfl rfl) ?_
              refine D_val rfl rfl rfl (R_pickT rfl rfl) ?_
              refine D_val rfl rfl rfl (R_move rfl) ?_
              refine D_val rfl rfl rfl (R_loadO ty30 1 rfl rfl rfl rfl (fun e => by cases e) rfl) ?_
              refine D_val rfl rfl rfl (R_loadO ty24 0 rfl rfl rfl rfl (fun e => by cases e) rfl) ?_
              refine D_call rfl rfl c14 rfl ⟨⟨0, rfl⟩, ⟨1, rfl⟩, ⟨2, rfl⟩, trivial⟩ (back_spec u.size u V6 _ (Nat.le_refl _) (by omega) (hR.mono hv6)) ?_
              rintro _ V7 hv7 ⟨ds3, rfl, hR3⟩
              refine D_call rfl rfl c13 rfl ⟨⟨0, rfl⟩, ⟨1, rfl⟩, ⟨2, rfl⟩, trivial⟩ (tcmp_spec u.size u u V7 _ _ (Nat.le_refl _) (by omega) (by omega) hR3 (hR2.mono hv7)) ?_
              rintro _ V8 hv8 rfl
              refine D_val rfl rfl rfl (R_cmp rfl rfl rfl) ?_
              refine D_val rfl rfl rfl (R_pickT rfl rfl) ?_
              refine D_val rfl rfl rfl (R_assign rfl) ?_
              refine D_done ?_
              refine Q_then ?_
              refine K_ret ?_
              refine results_gen (rs := [.tmp 4]) (vs := [_]) rfl ⟨rfl, trivial⟩ ?_
              first | rfl | (rw [Tr.cmp_self]; rfl) | (simp only [tupV]; rw [Tr.cmp_self]; rfl)
            ·
              intro h46
              refine D_val rfl rfl rfl (R_move rfl) ?_
              refine D_val rfl rfl rfl (R_cmp rfl rfl rfl) ?_
              refine D_val rfl rfl rfl (R_pickF rfl rfl) ?_
              refine D_val rfl rfl rfl (R_pickT rfl rfl) ?_
              refine D_val rfl rfl rfl (R_move rfl) ?_
              refine D_split ?_ ?_
              ·
                intro h51
                refine D_val rfl rfl rfl (R_loadO ty30 1 rfl rfl rfl rfl (fun e => by cases e) rfl) ?_
                refine D_val rfl rfl rfl (R_loadO ty24 0 rfl rfl rfl rfl (fun e => by cases e) rfl) ?_
                refine D_call rfl rfl c14 rfl ⟨⟨0, rfl⟩, ⟨1, rfl⟩, ⟨2, rfl⟩, trivial⟩ (back_spec u.size u V6 _ (Nat.le_refl _) (by omega) (hR.mono hv6)) ?_
                rintro _ V7 hv7 ⟨ds3, rfl, hR3⟩
                refine D_call rfl rfl c13 rfl ⟨⟨0, rfl⟩, ⟨1, rfl⟩, ⟨2, rfl⟩, trivial⟩ (tcmp_spec u.size u u V7 _ _ (Nat.le_refl _) (by omega) (by omega) hR3 (hR2.mono hv7)) ?_
                rintro _ V8 hv8 rfl
                refine D_val rfl rfl rfl (R_cmp rfl rfl rfl) ?_
                refine D_val rfl rfl rfl (R_pickT rfl rfl) ?_
                refine D_val rfl rfl rfl (R_assign rfl) ?_
                refine D_done ?_
                refine Q_then ?_
                refine K_ret ?_
                refine results_gen (rs := [.tmp 4]) (vs := [_]) rfl ⟨rfl, trivial⟩ ?_
                first | rfl | (rw [Tr.cmp_self]; rfl) | (simp only [tupV]; rw [Tr.cmp_self]; rfl)
              ·
                intro h51
                exfalso
                rw [he, hrr.symm.trans h46] at h51
                exact h51 rfl
          ·
            intro h44
            exfalso
            rw [he, hrr] at h44
            revert h44
            cases (Tr.relabel to t).isSome <;> simp
end Go.Proofs.X

namespace Go.Proofs.X
open Go Pal Go.Proofs
attribute [local irreducible] Pal.KO Pal.KC Pal.KQ Pal.KD
theorem fd42_1 : fldOk Tryd.prog T42 1 1 = true := by kernel_rfl
theorem rhas_spec (y : Int) (xs : List Int) (v : Value) (H : View) (hv : SI H v xs) (hl : xs.length ≤ 1099511627776) : Sat Tryd.prog F62 #[v, .int .i64 y] H (fun r _ => r = .bool (decide (y ∈ xs))) := by
  obtain ⟨a, cp, rfl⟩ := hv.shape
  refine enterO (n := 18) (args := [.slice a xs.length cp, .int .i64 y]) Tryd.func62 rfl rfl rfl fun w0 => ?_
  refine K_seq ?_
  refine K_region ?_
  refine KV (R_assign rfl) rfl ?_
  refine K_nil ?_
  refine Q_then ?_
  refine K_seq ?_
  refine K_seq ?_
  refine K_region ?_
  refine KV (R_assign rfl) rfl ?_
  refine K_nil ?_
  refine Q_then ?_
  refine K_block ?_
  refine K_loopD (G := Nat) [4, 5, 6, 7, 8, 9, 10, 11, 12, 13, 14, 15, 16, 17] (fun g => [(5, .int .i64 (g : Int))]) (fun hl g => hl) (fun g => H) (fun g => (g ≤ xs.length) ∧ (∀ j (h : j < xs.length), j < g → xs[j] ≠ y)) (fun g => xs.length - g) 0 ⟨Nat.zero_le _, fun j _ h => by simp at h⟩ ⟨rfl, trivial⟩ (by simp only [args0, Nat.reduceAdd, del, memN, beqN, Nat.reduceBEq, cond_true, cond_false]; rfl) rfl rfl ?_
  rintro k ⟨hk, hno⟩
  try dsimp only at hk
  try dsimp only at hno
  dsimp only [List.set, List.cons_append, List.nil_append]
  refine K_seq ?_
  refine K_seq ?_
  refine K_region ?_
  refine KV (R_move rfl) rfl ?_
  refine KV (R_move rfl) rfl ?_
  refine KV (R_len sl25 rfl) rfl ?_
  refine KV (R_cmp rfl rfl rfl) rfl ?_
  refine K_nil ?_
  refine Q_then ?_
  refine K_if rfl (fun h9 => ?_) (fun h9 => ?_)
  ·
    have hk' : k < xs.length := by omega
    obtain ⟨tb, to_, rfl, hta⟩ := hv.get hk'
    refine K_skip ?_
    refine Q_then ?_
    refine K_seq ?_
    refine K_block ?_
    refine K_seq ?_
    refine K_region ?_
    refine KV (R_move rfl) rfl ?_
    refine KV (R_move rfl) rfl ?_
    refine KV (R_indexN sl25 ty3 rfl rfl (by omega)) rfl ?_
    refine KV (R_loadH ty3 rfl (hta) rfl (fun _ => rfl) rfl) rfl ?_
    refine KV (R_move rfl) rfl ?_
    refine KV (R_cmp rfl rfl rfl) rfl ?_
    refine K_nil ?_
    refine Q_then ?_
    refine K_if rfl (fun h17 => ?_) (fun h17 => ?_)
    ·
      refine K_seq ?_
      refine K_region ?_
      refine KV (R_assign rfl) rfl ?_
      refine K_nil ?_
      refine Q_then ?_
      refine K_ret ?_
      refine Q_block_ret ?_
      refine Q_then_ret ?_
      refine Q_then_ret ?_
      refine Q_block_ret ?_
      refine Q_then_ret ?_
      refine results_gen (rs := [.tmp 4]) (vs := [_]) rfl ⟨rfl, trivial⟩ ?_
      refine congrArg Value.bool (Eq.symm ?_)
      simp only [decide_eq_true_eq]
      exact h17 ▸ List.getElem_mem hk'
    ·
      have hno2 : ∀ j (h : j < xs.length), j < k + 1 → xs[j] ≠ y := by
        intro j h hj
        by_cases e : j = k
        · subst e; exact h17
        · exact hno j h (by omega)
      refine K_skip ?_
      refine Q_block ?_
      refine Q_then ?_
      refine K_region ?_
      refine KV (R_move rfl) rfl ?_
      refine KV (R_add rfl rfl (by omega)) rfl ?_
      refine KV (R_assign rfl) rfl ?_
      refine K_nil ?_
      refine Q_nextD (k + 1) ⟨hk', hno2⟩ (by (try dsimp only); omega) ⟨rfl, trivial⟩ rfl rfl rfl
  ·
    have hk' : k = xs.length := by omega
    refine K_exit ?_
    refine Q_then_exit ?_
    refine Q_then_exit ?_
    refine Q_block_exit ?_
    refine Q_then ?_
    refine K_seq ?_
    refine K_region ?_
    refine KV (R_assign rfl) rfl ?_
    refine K_nil ?_
    refine Q_then ?_
    refine K_ret ?_
    refine results_gen (rs := [.tmp 4]) (vs := [_]) rfl ⟨rfl, trivial⟩ ?_
    refine congrArg Value.bool (Eq.symm ?_)
    simp only [decide_eq_false_iff_not]
    intro hx
    obtain ⟨j, hj, e⟩ := List.getElem_of_mem hx
    exact hno j hj (by omega) e

theorem there_spec (vr vu vf : Value) (n q : Int) (H : View) : Sat Tryd.prog F55 #[.agg #[vr, .int .i64 n, vu, vf], .int .i64 q] H (fun r _ => r = .bool (!badQ n q)) := by
  refine enterO (n := 13) (args := [.agg #[vr, .int .i64 n, vu, vf], .int .i64 q]) Tryd.func55 rfl rfl rfl fun w0 => ?_
  refine K_seq ?_
  refine K_region ?_
  refine KA (A_box rfl) rfl fun b2 => ?_
  refine KV (R_assign rfl) rfl ?_
  refine K_nil ?_
  refine Q_then ?_
  refine K_seq ?_
  refine K_region ?_
  refine KV (R_move rfl) rfl ?_
  refine KV (R_cmp rfl rfl rfl) rfl ?_
  refine KV (R_move rfl) rfl ?_
  refine K_split ?_ ?_
  ·
    intro h7
    refine K_gyes rfl rfl ?_
    refine KV (R_move rfl) rfl ?_
    refine K_gyes rfl rfl ?_
    refine KV (R_fieldAddr 1 fd42_1 rfl) rfl ?_
    refine K_gyes rfl rfl ?_
    refine KV (R_loadO ty3 0 rfl rfl rfl rfl (fun _ => rfl) rfl) rfl ?_
    refine K_gyes rfl rfl ?_
    refine KV (R_cmp rfl rfl rfl) rfl ?_
    refine KV (R_pickT rfl rfl) rfl ?_
    refine KV (R_assign rfl) rfl ?_
    refine K_nil ?_
    refine Q_then ?_
    refine K_ret ?_
    refine results_gen (rs := [.tmp 4]) (vs := [_]) rfl ⟨rfl, trivial⟩ ?_
    simp [tupV, badQ, h7]
  ·
    intro h7
    refine K_gno rfl rfl rfl rfl ?_
    refine K_gno rfl rfl rfl rfl ?_
    refine K_gno rfl rfl rfl rfl ?_
    refine K_gno rfl rfl rfl rfl ?_
    refine KV (R_pickF rfl rfl) rfl ?_
    refine KV (R_assign rfl) rfl ?_
    refine K_nil ?_
    refine Q_then ?_
    refine K_ret ?_
    refine results_gen (rs := [.tmp 4]) (vs := [_]) rfl ⟨rfl, trivial⟩ ?_
    simp [tupV, badQ, h7]

theorem rranks_spec (xs ys : List Int) (v w : Value) (H : View) (hv : SI H v xs) (hw : SI H w ys) (hl : xs.length ≤ 1099511627776) (_hl2 : ys.length ≤ 1099511627776) : Sat Tryd.prog F61 #[v, w] H (fun r _ => r = .bool (decide (xs = ys))) := by
  obtain ⟨a, cp, rfl⟩ := hv.shape
  obtain ⟨b, cq, rfl⟩ := hw.shape
  refine enterO (n := 26) (args := [.slice a xs.length cp, .slice b ys.length cq]) Tryd.func61 rfl rfl rfl fun w0 => ?_
  refine K_seq ?_
  refine K_region ?_
  refine KV (R_assign rfl) rfl ?_
  refine K_nil ?_
  refine Q_then ?_
  refine K_seq ?_
  refine K_seq ?_
  refine K_region ?_
  refine KV (R_move rfl) rfl ?_
  refine KV (R_len sl25 rfl) rfl ?_
  refine KV (R_move rfl) rfl ?_
  refine KV (R_len sl25 rfl) rfl ?_
  refine KV (R_cmp rfl rfl rfl) rfl ?_
  refine K_nil ?_
  refine Q_then ?_
  refine K_if rfl (fun h10 => ?_) (fun h10 => ?_)
  ·
    refine K_seq ?_
    refine K_region ?_
    refine KV (R_assign rfl) rfl ?_
    refine K_nil ?_
    refine Q_then ?_
    refine K_ret ?_
    refine Q_then_ret ?_
    refine results_gen (rs := [.tmp 4]) (vs := [_]) rfl ⟨rfl, trivial⟩ ?_
    refine congrArg Value.bool (Eq.symm ?_)
    simp only [decide_eq_false_iff_not]
    intro e; subst e; exact absurd rfl h10
  ·
    refine K_skip ?_
    refine Q_then ?_
    refine K_seq ?_
    refine K_seq ?_
    refine K_region ?_
    refine KV (R_assign rfl) rfl ?_
    refine K_nil ?_
    refine Q_then ?_
    refine K_block ?_
    refine K_loopD (G := Nat) [4, 5, 11, 12, 13, 14, 15, 16, 17, 18, 19, 20, 21, 22, 23, 24, 25] (fun g => [(5, .int .i64 (g : Int))]) (fun hl g => hl) (fun g => H) (fun g => (g ≤ xs.length) ∧ (∀ j (h : j < xs.length) (h2 : j < ys.length), j < g → xs[j] = ys[j])) (fun g => xs.length - g) 0 ⟨Nat.zero_le _, fun j _ _ h => by simp at h⟩ ⟨rfl, trivial⟩ (by simp only [args0, Nat.reduceAdd, del, memN, beqN, Nat.reduceBEq, cond_true, cond_false]; rfl) rfl rfl ?_
    rintro k ⟨hk, hyes⟩
    try dsimp only at hk
    try dsimp only at hyes
    dsimp only [List.set, List.cons_append, List.nil_append]
    refine K_seq ?_
    refine K_seq ?_
    refine K_region ?_
    refine KV (R_move rfl) rfl ?_
    refine KV (R_move rfl) rfl ?_
    refine KV (R_len sl25 rfl) rfl ?_
    refine KV (R_cmp rfl rfl rfl) rfl ?_
    refine K_nil ?_
    refine Q_then ?_
    refine K_if rfl (fun h14 => ?_) (fun h14 => ?_)
    ·
      have hk' : k < xs.length := by omega
      have hk2 : k < ys.length := by omega
      obtain ⟨tb, to_, rfl, hta⟩ := hv.get hk'
      obtain ⟨tb2, to2, rfl, htb⟩ := hw.get hk2
      refine K_skip ?_
      refine Q_then ?_
      refine K_seq ?_
      refine K_block ?_
      refine K_seq ?_
      refine K_regionD (fin := false) (R := [0, 1, 2, 3, 4, 5, 6, 7, 8]) (by kernel_rfl) mixed (List.nil_sublist _) ?_
      refine D_val rfl rfl rfl (R_move rfl) ?_
      refine D_val rfl rfl rfl (R_move rfl) ?_
      refine D_val rfl rfl rfl (R_indexN sl25 ty3 rfl rfl (by omega)) ?_
      refine D_val rfl rfl rfl (R_loadH ty3 rfl (hta) rfl (fun _ => rfl) rfl) ?_
      refine D_val rfl rfl rfl (R_move rfl) ?_
      refine D_val rfl rfl rfl (R_move rfl) ?_
      refine D_val rfl rfl rfl (R_indexN sl25 ty3 rfl rfl (by omega)) ?_
      refine D_val rfl rfl rfl (R_loadH ty3 rfl (htb) rfl (fun _ => rfl) rfl) ?_
      refine D_val rfl rfl rfl (R_cmp rfl rfl rfl) ?_
      refine D_done ?_
      refine Q_then ?_
      refine K_if rfl (fun h25 => ?_) (fun h25 => ?_)
      ·
        refine K_seq ?_
        refine K_region ?_
        refine KV (R_assign rfl) rfl ?_
        refine K_nil ?_
        refine Q_then ?_
        refine K_ret ?_
        refine Q_block_ret ?_
        refine Q_then_ret ?_
        refine Q_then_ret ?_
        refine Q_block_ret ?_
        refine Q_then_ret ?_
        refine results_gen (rs := [.tmp 4]) (vs := [_]) rfl ⟨rfl, trivial⟩ ?_
        refine congrArg Value.bool (Eq.symm ?_)
        simp only [decide_eq_false_iff_not]
        intro e; subst e; exact h25 rfl
      ·
        have hyes2 : ∀ j (h : j < xs.length) (h2 : j < ys.length), j < k + 1 → xs[j] = ys[j] := by
          intro j h h2 hj
          by_cases e : j = k
          · subst e; exact Decidable.not_not.1 h25
          · exact hyes j h h2 (by omega)
        refine K_skip ?_
        refine Q_block ?_
        refine Q_then ?_
        refine K_region ?_
        refine KV (R_move rfl) rfl ?_
        refine KV (R_add rfl rfl (by omega)) rfl ?_
        refine KV (R_assign rfl) rfl ?_
        refine K_nil ?_
        refine Q_nextD (k + 1) ⟨hk', hyes2⟩ (by (try dsimp only); omega) ⟨rfl, trivial⟩ rfl rfl rfl
    ·
      refine K_exit ?_
      refine Q_then_exit ?_
      refine Q_then_exit ?_
      refine Q_block_exit ?_
      refine Q_then ?_
      refine K_seq ?_
      refine K_region ?_
      refine KV (R_assign rfl) rfl ?_
      refine K_nil ?_
      refine Q_then ?_
      refine K_ret ?_
      refine results_gen (rs := [.tmp 4]) (vs := [_]) rfl ⟨rfl, trivial⟩ ?_
      refine congrArg Value.bool (Eq.symm ?_)
      simp only [decide_eq_true_eq]
      exact List.ext_getElem (by omega) fun j h h2 => hyes j h h2 (by omega)

theorem of_spec2 (p : HL) (ls : List (List Int)) (lv : Value) (lcells : List Value) (H : View) (hrd : Rd H p lv ls.length lcells) (hR : RepL (RSI H) 1 ls lcells) (xs : List Int) (v : Value) (hv : SI H v xs) (hl : xs.length ≤ 1048576) (hb : ∀ x ∈ xs, 0 ≤ x ∧ x < (ls.length : Int)) :
    SatO Tryd.prog F58 #[lv, v] H p (fun r H' q => q = p ∧ SSI H' r (ofM ls xs)) := by
  obtain ⟨a, cp, rfl⟩ := hv.shape
  obtain ⟨la, lcp, rfl, hla⟩ := hrd.sh
  refine enterO (n := 24) (args := [.slice la ls.length lcp, .slice a xs.length cp]) Tryd.func58 rfl rfl rfl fun w0 => ?_
  refine K_seq ?_
  refine K_region ?_
  refine KV (R_assign rfl) rfl ?_
  refine K_nil ?_
  refine Q_then ?_
  refine K_seq ?_
  refine K_region ?_
  refine KV (R_assign rfl) rfl ?_
  refine K_nil ?_
  refine Q_then ?_
  refine K_seq ?_
  refine K_seq ?_
  refine K_region ?_
  refine KV (R_assign rfl) rfl ?_
  refine K_nil ?_
  refine Q_then ?_
  refine K_block ?_
  refine K_nilrow T25 1 ?_
  refine K_loopD (G := Nat × Value × List Value) [5, 6, 7, 8, 9, 10, 11, 12, 13, 14, 15, 16, 17, 18, 19, 20, 21, 22] (fun g => [(6, .int .i64 (g.1 : Int)), (5, g.2.1)]) (fun hl g => (hl.set 0 (row g.2.1 T25 1 g.1 g.2.2))) (fun g => H) (fun g => (g.1 ≤ xs.length) ∧ (RepL (RSI H) 1 ((xs.take g.1).map fun i => ls.getD i.toNat []) g.2.2) ∧ (∃ ad cp, g.2.1 = .slice ad g.1 cp)) (fun g => xs.length - g.1) (0, nilS, []) ⟨Nat.zero_le _, .nil, none, 0, rfl⟩ ⟨rfl, rfl, trivial⟩ (by simp only [args0, Nat.reduceAdd, del, memN, beqN, Nat.reduceBEq, cond_true, cond_false]; rfl) rfl rfl ?_
  rintro ⟨k, w, cells⟩ ⟨hk, hC, hw⟩
  dsimp only at hk hC hw
  dsimp only [List.set, List.cons_append, List.nil_append]
  obtain ⟨wa, wcp, rfl⟩ := hw
  refine K_seq ?_
  refine K_seq ?_
  refine K_region ?_
  refine KV (R_move rfl) rfl ?_
  refine KV (R_move rfl) rfl ?_
  refine KV (R_len sl25 rfl) rfl ?_
  refine KV (R_cmp rfl rfl rfl) rfl ?_
  refine K_nil ?_
  refine Q_then ?_
  refine K_if rfl (fun h10 => ?_) (fun h10 => ?_)
  ·
    have hk' : k < xs.length := by omega
    obtain ⟨tb, to_, rfl, hta⟩ := hv.get hk'
    obtain ⟨hx0, hx1⟩ := hb _ (List.getElem_mem hk')
    have hxl : xs[k].toNat < ls.length := by omega
    obtain ⟨lb, lo, rfl⟩ := hrd.open' (by omega)
    obtain ⟨ea, ecp, hes, hec⟩ := hR.getSI hxl
    have hgd : ls[xs[k].toNat] = ls.getD xs[k].toNat [] := by simp [List.getD, hxl]
    refine K_skip ?_
    refine Q_then ?_
    refine K_seq ?_
    refine K_block ?_
    refine K_region ?_
    refine KV (R_move rfl) rfl ?_
    refine KV (R_move rfl) rfl ?_
    refine KV (R_move rfl) rfl ?_
    refine KV (R_move rfl) rfl ?_
    refine KV (R_indexN sl25 ty3 rfl rfl (by omega)) rfl ?_
    refine KV (R_loadH ty3 rfl (hta) rfl (fun _ => rfl) rfl) rfl ?_
    refine KV (R_index sl44 ty25 rfl rfl ⟨hx0, hx1⟩) rfl ?_
    refine KV (R_loadRd ty25 rfl hrd (permCons (permSelf p)) ⟨_, _, _, _, rfl, rfl, rfl⟩ hec rfl (fun _ => rfl) rfl) rfl ?_
    refine KA (A_buildSlice (vs := [.slice ea ls[xs[k].toNat].length ecp]) sl44 ty25 z25 rfl rfl (by simp [Value.cells]) (by simp) rfl (by decide)) rfl fun b21 => ?_
    refine K_append1 0 ap44 rfl rfl rfl rfl rfl rfl ⟨by omega, by omega⟩ rfl fun a22 k22 hn22 => ?_
    refine KV (R_assign rfl) rfl ?_
    refine K_nil ?_
    refine Q_block ?_
    refine Q_then ?_
    refine K_region ?_
    refine KV (R_move rfl) rfl ?_
    refine KV (R_add rfl rfl (by omega)) rfl ?_
    refine KV (R_assign rfl) rfl ?_
    refine K_nil ?_
    refine Q_nextD (k + 1, .slice a22 (k + 1) k22, cells ++ [.slice ea ls[xs[k].toNat].length ecp]) ⟨hk', hC.snocT hk' ⟨_, rfl, by rw [← hgd]; exact hes⟩ rfl, _, _, rfl⟩ (by (try dsimp only); omega) ⟨rfl, rfl, trivial⟩ rfl rfl rfl
  ·
    have hk' : k = xs.length := by omega
    refine K_exit ?_
    refine Q_then_exit ?_
    refine Q_then_exit ?_
    refine Q_block_exit ?_
    refine Q_then ?_
    refine K_seq ?_
    refine K_region ?_
    refine KV (R_move rfl) rfl ?_
    refine KV (R_assign rfl) rfl ?_
    refine K_nil ?_
    refine Q_then ?_
    refine K_ret ?_
    subst hk'
    rw [List.take_length] at hC
    refine KQ_pubrowP (fun x hx => hx) fun Hp hp hrow => ?_
    refine results_gen (rs := [.tmp 4]) (vs := [_]) rfl ⟨rfl, trivial⟩ ?_
    refine ⟨rfl, cells, ?_, hC.impSI hp⟩
    show SlAt Hp _ (ofM ls xs).length cells
    rw [ofM, List.length_map]
    exact hrow.sl

theorem find_spec (p : HL) (ls : List (List Int)) (lv : Value) (lcells : List Value) (H : View) (hrd : Rd H p lv ls.length lcells) (hR : RepL (RSI H) 1 ls lcells) (hll : ls.length ≤ 1048576) (hle : ∀ x ∈ ls, x.length ≤ 1048576) (s : List Int) (v : Value) (hv : SI H v s) (hs : s.length ≤ 1048576) :
    SatO Tryd.prog F59 #[lv, v] H p (fun r _ q => q = p ∧ r = .int .i64 (refFind ls s)) := by
  obtain ⟨a, cp, rfl⟩ := hv.shape
  obtain ⟨la, lcp, rfl, hla⟩ := hrd.sh
  refine enterO (n := 20) (args := [.slice la ls.length lcp, .slice a s.length cp]) Tryd.func59 rfl rfl rfl fun w0 => ?_
  refine K_seq ?_
  refine K_region ?_
  refine KV (R_assign rfl) rfl ?_
  refine K_nil ?_
  refine Q_then ?_
  refine K_seq ?_
  refine K_seq ?_
  refine K_region ?_
  refine KV (R_assign rfl) rfl ?_
  refine K_nil ?_
  refine Q_then ?_
  refine K_block ?_
  refine K_loopD (G := Nat × View) [4, 5, 6, 7, 8, 9, 10, 11, 12, 13, 14, 15, 16, 17, 18, 19] (fun g => [(5, .int .i64 (g.1 : Int))]) (fun hl g => hl) (fun g => g.2) (fun g => (g.1 ≤ ls.length) ∧ (VLe H g.2) ∧ (∀ j (h : j < ls.length), j < g.1 → ls[j] ≠ s)) (fun g => ls.length - g.1) (0, H) ⟨Nat.zero_le _, VLe.refl H, fun j _ h => by simp at h⟩ ⟨rfl, trivial⟩ (by simp only [args0, Nat.reduceAdd, del, memN, beqN, Nat.reduceBEq, cond_true, cond_false]; rfl) rfl rfl ?_
  rintro ⟨k, V⟩ ⟨hk, hV, hno⟩
  dsimp only at hk hV hno
  dsimp only [List.set, List.cons_append, List.nil_append]
  refine K_seq ?_
  refine K_seq ?_
  refine K_region ?_
  refine KV (R_move rfl) rfl ?_
  refine KV (R_move rfl) rfl ?_
  refine KV (R_len sl44 rfl) rfl ?_
  refine KV (R_cmp rfl rfl rfl) rfl ?_
  refine K_nil ?_
  refine Q_then ?_
  refine K_if rfl (fun h9 => ?_) (fun h9 => ?_)
  ·
    have hk' : k < ls.length := by omega
    obtain ⟨lb, lo, rfl⟩ := hrd.open' (by omega)
    obtain ⟨ea, ecp, hes, hec⟩ := hR.getSI hk'
    refine K_skip ?_
    refine Q_then ?_
    refine K_seq ?_
    refine K_block ?_
    refine K_seq ?_
    refine K_region ?_
    refine KV (R_move rfl) rfl ?_
    refine KV (R_move rfl) rfl ?_
    refine KV (R_indexN sl44 ty25 rfl rfl (by omega)) rfl ?_
    refine KV (R_loadRd ty25 rfl (hrd.mono hV) (permSelf p) ⟨_, _, _, _, rfl, rfl, rfl⟩ hec rfl (fun _ => rfl) rfl) rfl ?_
    refine KV (R_move rfl) rfl ?_
    refine K_call c60 rfl rfl (cmpl_spec ls[k] s _ _ V (hes.mono hV) (hv.mono hV) (Nat.le_trans (hle _ (List.getElem_mem hk')) (by decide)) (by omega)) ?_
    rintro _ V1 hle1 rfl
    refine KV (R_cmp rfl rfl rfl) rfl ?_
    refine K_nil ?_
    refine Q_then ?_
    refine K_if rfl (fun h18 => ?_) (fun h18 => ?_)
    ·
      have he : ls[k] = s := cmpL_eq.1 h18
      refine K_seq ?_
      refine K_region ?_
      refine KV (R_move rfl) rfl ?_
      refine KV (R_assign rfl) rfl ?_
      refine K_nil ?_
      refine Q_then ?_
      refine K_ret ?_
      refine Q_block_ret ?_
      refine Q_then_ret ?_
      refine Q_then_ret ?_
      refine Q_block_ret ?_
      refine Q_then_ret ?_
      refine results_gen (rs := [.tmp 4]) (vs := [_]) rfl ⟨rfl, trivial⟩ ?_
      refine ⟨rfl, ?_⟩
      have hm : s ∈ ls := he ▸ List.getElem_mem hk'
      simp only [tupV, refFind, if_pos hm]
      rw [idxOf_at hk' he hno]
    ·
      have hno2 : ∀ j (h : j < ls.length), j < k + 1 → ls[j] ≠ s := by
        intro j h hj
        by_cases e : j = k
        · subst e; exact fun e => h18 (cmpL_eq.2 e)
        · exact hno j h (by omega)
      refine K_skip ?_
      refine Q_block ?_
      refine Q_then ?_
      refine K_region ?_
      refine KV (R_move rfl) rfl ?_
      refine KV (R_add rfl rfl (by omega)) rfl ?_
      refine KV (R_assign rfl) rfl ?_
      refine K_nil ?_
      refine Q_nextD (k + 1, V1) ⟨hk', hV.trans hle1, hno2⟩ (by (try dsimp only); omega) ⟨rfl, trivial⟩ rfl rfl rfl
  ·
    have hk' : k = ls.length := by omega
    refine K_exit ?_
    refine Q_then_exit ?_
    refine Q_then_exit ?_
    refine Q_block_exit ?_
    refine Q_then ?_
    refine K_seq ?_
    refine K_region ?_
    refine KV (R_assign rfl) rfl ?_
    refine K_nil ?_
    refine Q_then ?_
    refine K_ret ?_
    refine results_gen (rs := [.tmp 4]) (vs := [_]) rfl ⟨rfl, trivial⟩ ?_
    refine ⟨rfl, ?_⟩
    have hm : ¬ s ∈ ls := by
      intro hm
      obtain ⟨j, hj, e⟩ := List.getElem_of_mem hm
      exact hno j hj (by omega) e
    simp only [tupV, refFind, if_neg hm]
end Go.Proofs.X

namespace Go.Proofs.X
open Go Pal Go.Proofs
attribute [local irreducible] Pal.KO Pal.KC Pal.KQ Pal.KD
theorem ty40 : Ty Tryd.prog T40 false 1 := .of (by kernel_rfl)
theorem ty100 : Ty Tryd.prog T100 true 3 := .of (by kernel_rfl)
theorem sl40 : slcOk Tryd.prog T40 T100 := by unfold slcOk; kernel_rfl
theorem fd42_2 : fldOk Tryd.prog T42 2 2 = true := by kernel_rfl
theorem fd100_0 : fldOk Tryd.prog T100 0 0 = true := by kernel_rfl
theorem fd100_1 : fldOk Tryd.prog T100 1 1 = true := by kernel_rfl
theorem fd100_2 : fldOk Tryd.prog T100 2 2 = true := by kernel_rfl
theorem z100 : zeroOk Tryd.prog T100 (.agg #[.int .i64 0, .slice none 0 0, .int .i64 0]) := .of (by kernel_rfl)
theorem c62 : callable Tryd.prog F62 = true := by kernel_rfl
theorem rtuples_spec (m k : Nat) (hm : m ≤ 2) (hk0 : k ≤ 512) (H : View) : Sat Tryd.prog F56 #[.int .i64 (m : Int), .int .i64 (k : Int)] H (fun r H' => SSI H' r (tups k m)) := by
  refine enterO (n := 41) (args := [.int .i64 (m : Int), .int .i64 (k : Int)]) Tryd.func56 rfl rfl rfl fun w0 => ?_
  refine K_seq ?_
  refine K_region ?_
  refine KV (R_assign rfl) rfl ?_
  refine K_nil ?_
  refine Q_then ?_
  refine K_seq ?_
  refine K_region ?_
  refine KA (A_buildSlice (vs := [.slice none 0 0]) sl44 ty25 z25 rfl rfl (by simp [Value.cells]) (by simp) rfl (by decide)) rfl fun b10 => ?_
  refine KV (R_assign rfl) rfl ?_
  refine K_nil ?_
  refine KQ_pubnew (by simp [feet]) fun V0 hv0 hb10 => ?_
  have hS0 : SSI V0 (slc 1 b10) (tups k 0) := ⟨_, ⟨_, _, rfl, .inr ⟨b10, 0, rfl, At.of hb10⟩⟩, .one ⟨_, rfl, ⟨none, 0, rfl, .inl ⟨rfl, rfl⟩⟩, by simp⟩ rfl⟩
  refine Q_then ?_
  refine K_seq ?_
  refine K_seq ?_
  refine K_region ?_
  refine KV (R_assign rfl) rfl ?_
  refine K_nil ?_
  refine Q_then ?_
  refine K_block ?_
  refine K_loopD (G := Nat × View × Value) [5, 6, 7, 8, 9, 11, 12, 13, 14, 15, 16, 17, 18, 19, 20, 21, 22, 23, 24, 25, 26, 27, 28, 29, 30, 31, 32, 33, 34, 35, 36, 37, 38, 39] (fun g => [(6, .int .i64 (g.1 : Int)), (5, g.2.2)]) (fun hl g => hl) (fun g => g.2.1) (fun g => (g.1 ≤ m) ∧ (VLe V0 g.2.1) ∧ (SSI g.2.1 g.2.2 (tups k g.1))) (fun g => m - g.1) (0, V0, slc 1 b10) ⟨Nat.zero_le _, VLe.refl _, hS0⟩ ⟨rfl, rfl, trivial⟩ (by simp only [args0, Nat.reduceAdd, del, memN, beqN, Nat.reduceBEq, cond_true, cond_false]; rfl) rfl rfl ?_
  rintro ⟨i, V, ov⟩ ⟨hi, hV, hS⟩
  dsimp only at hi hV hS
  dsimp only [List.set, List.cons_append, List.nil_append]
  obtain ⟨oa, ocp, rfl⟩ := hS.shape
  have hSS := hS
  obtain ⟨ocells, hos, hoR⟩ := hS
  have hpw : (tups k i).length ≤ 262144 := by rw [tups_len]; exact pow_le2 hk0 (by omega)
  refine K_seq ?_
  refine K_seq ?_
  refine K_region ?_
  refine KV (R_move rfl) rfl ?_
  refine KV (R_move rfl) rfl ?_
  refine KV (R_cmp rfl rfl rfl) rfl ?_
  refine K_nil ?_
  refine Q_then ?_
  refine K_if rfl (fun h13 => ?_) (fun h13 => ?_)
  ·
    have hi' : i < m := by omega
    refine K_skip ?_
    refine Q_then ?_
    refine K_seq ?_
    refine K_block ?_
    refine K_seq ?_
    refine K_region ?_
    refine KV (R_assign rfl) rfl ?_
    refine K_nil ?_
    refine Q_then ?_
    refine K_seq ?_
    refine K_seq ?_
    refine K_region ?_
    refine KV (R_assign rfl) rfl ?_
    refine K_nil ?_
    refine Q_then ?_
    refine K_block ?_
    refine K_nilrow T25 1 ?_
    refine K_loopD (G := Nat × View × Value × List Value) [7, 8, 9, 16, 17, 18, 19, 20, 21, 22, 23, 24, 25, 26, 27, 28, 29, 30, 31, 32, 33, 34, 35, 36, 37, 38] (fun g => [(8, .int .i64 (g.1 : Int)), (7, g.2.2.1)]) (fun hl g => (hl.set 0 (row g.2.2.1 T25 1 (g.1 * k) g.2.2.2))) (fun g => g.2.1) (fun g => (g.1 ≤ (tups k i).length) ∧ (VLe V g.2.1) ∧ (RepL (RSI g.2.1) 1 (((tups k i).take g.1).flatMap fun xs => (List.range k).map fun (z : Nat) => xs ++ [(z : Int)]) g.2.2.2) ∧ (∃ ad cp, g.2.2.1 = .slice ad (g.1 * k) cp)) (fun g => (tups k i).length - g.1) (0, V, nilS, []) ⟨Nat.zero_le _, VLe.refl _, .nil, none, 0, by rw [Nat.zero_mul]; rfl⟩ ⟨rfl, rfl, trivial⟩ (by simp only [args0, Nat.reduceAdd, del, memN, beqN, Nat.reduceBEq, cond_true, cond_false]; rfl) (by dsimp only; rw [Nat.zero_mul]; rfl) rfl ?_
    rintro ⟨j, U, w, cells⟩ ⟨hj, hVU, hC, hw⟩
    dsimp only at hj hVU hC hw
    dsimp only [List.set, List.cons_append, List.nil_append]
    obtain ⟨wa, wcp, rfl⟩ := hw
    refine K_seq ?_
    refine K_seq ?_
    refine K_region ?_
    refine KV (R_move rfl) rfl ?_
    refine KV (R_move rfl) rfl ?_
    refine KV (R_len sl44 rfl) rfl ?_
    refine KV (R_cmp rfl rfl rfl) rfl ?_
    refine K_nil ?_
    refine Q_then ?_
    refine K_if rfl (fun h19 => ?_) (fun h19 => ?_)
    ·
      have hj' : j < (tups k i).length := by omega
      refine K_skip ?_
      refine Q_then ?_
      refine K_seq ?_
      refine K_block ?_
      refine K_seq ?_
      refine K_region ?_
      refine KV (R_assign rfl) rfl ?_
      refine K_nil ?_
      refine Q_then ?_
      refine K_block ?_
      refine K_loopD (G := Nat × View × Value × List Value) [7, 9, 22, 23, 24, 25, 26, 27, 28, 29, 30, 31, 32, 33, 34, 35, 36, 37, 38] (fun g => [(9, .int .i64 (g.1 : Int)), (7, g.2.2.1)]) (fun hl g => (hl.set 0 (row g.2.2.1 T25 1 (j * k + g.1) g.2.2.2))) (fun g => g.2.1) (fun g => (g.1 ≤ k) ∧ (VLe U g.2.1) ∧ (RepL (RSI g.2.1) 1 ((((tups k i).take j).flatMap fun xs => (List.range k).map fun (z : Nat) => xs ++ [(z : Int)]) ++ (List.range g.1).map fun (z : Nat) => (tups k i)[j] ++ [(z : Int)]) g.2.2.2) ∧ (∃ ad cp, g.2.2.1 = .slice ad (j * k + g.1) cp)) (fun g => k - g.1) (0, U, .slice wa (j * k) wcp, cells) ⟨Nat.zero_le _, VLe.refl _, by simpa using hC, wa, wcp, rfl⟩ ⟨rfl, rfl, trivial⟩ (by simp only [args0, Nat.reduceAdd, del, memN, beqN, Nat.reduceBEq, cond_true, cond_false]; rfl) rfl rfl ?_
      rintro ⟨x, U2, w2, cells2⟩ ⟨hx, hVU2, hC2, hw2⟩
      dsimp only at hx hVU2 hC2 hw2
      dsimp only [List.set, List.cons_append, List.nil_append]
      obtain ⟨wa2, wcp2, rfl⟩ := hw2
      obtain ⟨tb, to_, xa, xcp, he, hta, hes⟩ := SSI.get ⟨ocells, hos, hoR⟩ hj'
      cases he
      refine K_seq ?_
      refine K_seq ?_
      refine K_region ?_
      refine KV (R_move rfl) rfl ?_
      refine KV (R_move rfl) rfl ?_
      refine KV (R_cmp rfl rfl rfl) rfl ?_
      refine K_nil ?_
      refine Q_then ?_
      refine K_if rfl (fun h24 => ?_) (fun h24 => ?_)
      ·
        have hx' : x < k := by omega
        refine K_skip ?_
        refine Q_then ?_
        refine K_seq ?_
        refine K_block ?_
        refine K_region ?_
        refine KV (R_move rfl) rfl ?_
        refine KA (A_buildSlice (vs := []) sl25 ty3 z3 rfl rfl (by simp) (by simp) rfl (by decide)) rfl fun b28 => ?_
        refine KV (R_move rfl) rfl ?_
        refine KV (R_move rfl) rfl ?_
        refine KV (R_indexN sl44 ty25 rfl rfl (by omega)) rfl ?_
        refine KV (R_loadH ty25 rfl (hta.mono (hVU.trans hVU2)) rfl (fun _ => rfl) rfl) rfl ?_
        have hil := (tups_item (List.getElem_mem hj')).1
        have hbig : j * k + x < 262144 * 512 + 512 := by
          have := Nat.mul_le_mul (Nat.le_trans (Nat.le_of_lt hj') hpw) hk0
          omega
        refine K_append0 0 ap25 sl25 rfl rfl rfl (hes.mono (hVU.trans hVU2)).1 (by simp [ints]) (ints_one _) ⟨by omega, by omega⟩ rfl fun a33 k33 => ?_
        refine KV (R_move rfl) rfl ?_
        refine KA (A_buildSlice (vs := [.int .i64 (x : Int)]) sl25 ty3 z3 rfl rfl (by simp [Value.cells]) (by simp) rfl (by decide)) rfl fun b35 => ?_
        refine K_append1 0 ap25 rfl rfl rfl rfl rfl rfl ⟨by omega, by omega⟩ rfl fun a36 k36 hn36 => ?_
        refine KO_pubrow rfl fun W hp hrow36 => ?_
        have hitem := SI.snoc hes.2 (show x ≤ 1099511627776 by omega) hrow36.sl
        refine KA (A_buildSlice (vs := [.slice a36 (((tups k i)[j]).length + 1) k36]) sl44 ty25 z25 rfl rfl (by simp [Value.cells]) (by simp) rfl (by decide)) rfl fun b37 => ?_
        refine K_append1 0 ap44 rfl rfl rfl rfl rfl rfl ⟨by omega, by omega⟩ rfl fun a38 k38 hn38 => ?_
        refine KV (R_assign rfl) rfl ?_
        refine K_nil ?_
        refine Q_block ?_
        refine Q_then ?_
        refine K_region ?_
        refine KV (R_move rfl) rfl ?_
        refine KV (R_add rfl rfl (by omega)) rfl ?_
        refine KV (R_assign rfl) rfl ?_
        refine K_nil ?_
        refine Q_nextD (x + 1, W, .slice a38 (j * k + x + 1) k38, cells2 ++ [.slice a36 ((tups k i)[j].length + 1) k36]) ⟨hx', hVU2.trans hp, by rw [range_map_succ, ← List.append_assoc]; exact (hC2.impSI hp).snoc ⟨_, rfl, hitem⟩ rfl, _, _, rfl⟩ (by (try dsimp only); omega) ⟨rfl, rfl, trivial⟩ rfl rfl rfl
      ·
        have hx' : x = k := by omega
        refine K_exit ?_
        refine Q_then_exit ?_
        refine Q_then_exit ?_
        refine Q_block_exit ?_
        refine Q_block ?_
        refine Q_then ?_
        refine K_region ?_
        refine KV (R_move rfl) rfl ?_
        refine KV (R_add rfl rfl (by omega)) rfl ?_
        refine KV (R_assign rfl) rfl ?_
        refine K_nil ?_
        have hC3 : RepL (RSI U2) 1 (((tups k i).take (j + 1)).flatMap fun xs => (List.range k).map fun (z : Nat) => xs ++ [(z : Int)]) cells2 := by
          rw [List.take_succ_eq_append_getElem hj', List.flatMap_append]
          simpa [hx'] using hC2
        refine Q_nextD (j + 1, U2, .slice wa2 (j * k + x) wcp2, cells2) ⟨hj', hVU.trans hVU2, hC3, _, _, by rw [Nat.add_mul, Nat.one_mul, hx']⟩ (by (try dsimp only); omega) ⟨rfl, rfl, trivial⟩ rfl (by dsimp only; rw [Nat.add_mul, Nat.one_mul, hx']) rfl
    ·
      have hk' : tups k (i + 1) = ((tups k i).take j).flatMap fun xs => (List.range k).map fun (z : Nat) => xs ++ [(z : Int)] := by rw [show j = (tups k i).length by omega, List.take_length]; rfl
      refine K_exit ?_
      refine Q_then_exit ?_
      refine Q_then_exit ?_
      refine Q_block_exit ?_
      refine Q_then ?_
      refine K_region ?_
      refine KV (R_move rfl) rfl ?_
      refine KV (R_assign rfl) rfl ?_
      refine K_nil ?_
      have hk2 : (tups k (i + 1)).length = j * k := by rw [tups_len, Nat.pow_succ, show j = (tups k i).length by omega, tups_len]
      refine KQ_pubrow rfl fun W0 hp0 hrow0 => ?_
      refine Q_block ?_
      refine Q_then ?_
      refine K_region ?_
      refine KV (R_move rfl) rfl ?_
      refine KV (R_add rfl rfl (by omega)) rfl ?_
      refine KV (R_assign rfl) rfl ?_
      refine K_nil ?_
      refine Q_nextD (i + 1, W0, .slice wa (j * k) wcp) ⟨hi', hV.trans (hVU.trans hp0), cells, by rw [hk2]; exact hrow0.sl, by rw [hk']; exact hC.impSI hp0⟩ (by (try dsimp only); omega) ⟨rfl, rfl, trivial⟩ rfl rfl rfl
  ·
    have hi' : i = m := by omega
    subst hi'
    refine K_exit ?_
    refine Q_then_exit ?_
    refine Q_then_exit ?_
    refine Q_block_exit ?_
    refine Q_then ?_
    refine K_seq ?_
    refine K_region ?_
    refine KV (R_move rfl) rfl ?_
    refine KV (R_assign rfl) rfl ?_
    refine K_nil ?_
    refine Q_then ?_
    refine K_ret ?_
    refine results_gen (rs := [.tmp 4]) (vs := [_]) rfl ⟨rfl, trivial⟩ ?_
    exact hSS

theorem next_spec (a : Au) (haok : AuOk a) (sym : Int) (ls : List (List Int)) (lv vr vu vf : Value) (H : View) (ha : RepAu H a vr vu vf) (hls : SSI H lv ls) (hal : ∀ r ∈ a.rules, r.sym = sym → r.args.length = ls.length) (hll : ls.length ≤ 1048576) (hli : ∀ x ∈ ls, x.length ≤ 1048576) :
    Sat Tryd.prog F57 #[.agg #[vr, .int .i64 a.states, vu, vf], .int .i64 sym, lv] H (fun r H' => SI H' r (refNext a sym ls)) := by
  obtain ⟨la, lcp, rfl⟩ := hls.shape
  obtain ⟨ua, ucp, rfl⟩ := ha.ushape
  have hst := haok.st
  have hul := haok.ul
  refine enterO (n := 71) (args := [.agg #[vr, .int .i64 a.states, .slice ua a.rules.length ucp, vf], .int .i64 sym, .slice la ls.length lcp]) Tryd.func57 rfl rfl rfl fun w0 => ?_
  refine K_seq ?_
  refine K_region ?_
  refine KA (A_box rfl) rfl fun b3 => ?_
  refine KV (R_assign rfl) rfl ?_
  refine K_nil ?_
  refine Q_then ?_
  refine K_seq ?_
  refine K_region ?_
  refine KV (R_assign rfl) rfl ?_
  refine K_nil ?_
  refine Q_then ?_
  refine K_seq ?_
  refine K_seq ?_
  refine K_region ?_
  refine KV (R_assign rfl) rfl ?_
  refine K_nil ?_
  refine Q_then ?_
  refine K_block ?_
  refine K_nilrow T3 1 ?_
  refine K_loopD (G := Nat × View × Value) [7, 8, 9, 10, 11, 12, 13, 14, 15, 16, 17, 18, 19, 20, 21, 22, 23, 24, 25, 26, 27, 28, 29, 30, 31, 32, 33, 34, 35, 36, 37, 38, 39, 40, 41, 42, 43, 44, 45, 46, 47, 48, 49, 50, 51, 52, 53, 54, 55, 56, 57, 58, 59, 60, 61, 62, 63, 64, 65, 66, 67, 68, 69] (fun g => [(8, .int .i64 (g.1 : Int)), (7, g.2.2)]) (fun hl g => (hl.set 0 (row g.2.2 T3 1 (nextTo a sym ls g.1).length (ints (nextTo a sym ls g.1))))) (fun g => g.2.1) (fun g => (g.1 ≤ a.states.toNat) ∧ (VLe H g.2.1) ∧ (∃ ad cp, g.2.2 = .slice ad (nextTo a sym ls g.1).length cp)) (fun g => a.states.toNat - g.1) (0, H, nilS) ⟨Nat.zero_le _, VLe.refl _, none, 0, rfl⟩ ⟨rfl, rfl, trivial⟩ (by simp only [args0, Nat.reduceAdd, del, memN, beqN, Nat.reduceBEq, cond_true, cond_false]; rfl) rfl rfl ?_
  rintro ⟨s, V, w⟩ ⟨hs, hV, hw⟩
  dsimp only at hs hV hw
  dsimp only [List.set, List.cons_append, List.nil_append]
  obtain ⟨wa, wcp, rfl⟩ := hw
  have hnl : (nextTo a sym ls s).length ≤ s := subL_len _ _
  refine K_seq ?_
  refine K_seq ?_
  refine K_region ?_
  refine KV (R_move rfl) rfl ?_
  refine KV (R_fieldAddr 1 fd42_1 rfl) rfl ?_
  refine KV (R_loadO ty3 1 rfl rfl rfl rfl (fun _ => rfl) rfl) rfl ?_
  refine KV (R_cmp rfl rfl rfl) rfl ?_
  refine K_nil ?_
  refine Q_then ?_
  refine K_if rfl (fun h17 => ?_) (fun h17 => ?_)
  ·
    have hs' : s < a.states.toNat := by omega
    refine K_skip ?_
    refine Q_then ?_
    refine K_seq ?_
    refine K_block ?_
    refine K_seq ?_
    refine K_region ?_
    refine KV (R_assign rfl) rfl ?_
    refine K_nil ?_
    refine Q_then ?_
    refine K_seq ?_
    refine K_seq ?_
    refine K_region ?_
    refine KV (R_assign rfl) rfl ?_
    refine K_nil ?_
    refine Q_then ?_
    refine K_block ?_
    refine K_loopD (G := Nat × View) [9, 10, 11, 12, 13, 20, 21, 22, 23, 24, 25, 26, 27, 28, 29, 30, 31, 32, 33, 34, 35, 36, 37, 38, 39, 40, 41, 42, 43, 44, 45, 46, 47, 48, 49, 50, 51, 52, 53, 54, 55, 56, 57, 58, 59, 60, 61, 62, 63, 64] (fun g => [(10, .int .i64 (g.1 : Int)), (9, .bool ((a.rules.take g.1).any (fitR sym (s : Int) ls)))]) (fun hl g => hl) (fun g => g.2) (fun g => (g.1 ≤ a.rules.length) ∧ (VLe V g.2)) (fun g => a.rules.length - g.1) (0, V) ⟨Nat.zero_le _, VLe.refl _⟩ ⟨rfl, rfl, trivial⟩ (by simp only [args0, Nat.reduceAdd, del, memN, beqN, Nat.reduceBEq, cond_true, cond_false]; rfl) rfl rfl ?_
    rintro ⟨i, U⟩ ⟨hi, hVU⟩
    dsimp only at hi hVU
    dsimp only [List.set, List.cons_append, List.nil_append]
    refine K_seq ?_
    refine K_seq ?_
    refine K_region ?_
    refine KV (R_move rfl) rfl ?_
    refine KV (R_fieldAddr 2 fd42_2 rfl) rfl ?_
    refine KV (R_loadO ty40 1 rfl rfl rfl rfl (fun _ => rfl) rfl) rfl ?_
    refine KV (R_len sl40 rfl) rfl ?_
    refine KV (R_cmp rfl rfl rfl) rfl ?_
    refine K_nil ?_
    refine Q_then ?_
    refine K_if rfl (fun h24 => ?_) (fun h24 => ?_)
    ·
      have hi' : i < a.rules.length := by omega
      obtain ⟨ub, uo, ucp2, xa, xcp, hue, hrc, hsr, hsym, hto, hxl⟩ := (ha.mono (hV.trans hVU)).rule hi'
      cases hue
      have hal2 := hal _ (List.getElem_mem hi')
      refine K_skip ?_
      refine Q_then ?_
      refine K_seq ?_
      refine K_block ?_
      refine K_seq ?_
      refine K_region ?_
      refine KV (R_fieldAddr 2 fd42_2 rfl) rfl ?_
      refine KV (R_loadO ty40 1 rfl rfl rfl rfl (fun _ => rfl) rfl) rfl ?_
      refine KV (R_move rfl) rfl ?_
      refine KV (R_indexN sl40 ty100 rfl rfl (by omega)) rfl ?_
      refine KV (R_loadH ty100 rfl (hrc) rfl (fun e => by cases e) rfl) rfl ?_
      refine KA (A_alloc z100) rfl fun b11 => ?_
      refine K_store ty100 0 rfl rfl rfl rfl rfl rfl ?_
      refine K_nil ?_
      refine Q_then ?_
      refine K_seq ?_
      refine K_region ?_
      refine KV (R_fieldAddr 0 fd100_0 rfl) rfl ?_
      refine KV (R_loadO ty3 0 rfl rfl rfl rfl (fun _ => rfl) rfl) rfl ?_
      refine KV (R_move rfl) rfl ?_
      refine KV (R_cmp rfl rfl rfl) rfl ?_
      refine KV (R_move rfl) rfl ?_
      refine K_split ?_ ?_
      ·
        intro h36
        refine K_gyes rfl rfl ?_
        refine KV (R_fieldAddr 2 fd100_2 rfl) rfl ?_
        refine K_gyes rfl rfl ?_
        refine KV (R_loadO ty3 0 rfl rfl rfl rfl (fun _ => rfl) rfl) rfl ?_
        refine K_gyes rfl rfl ?_
        refine KV (R_move rfl) rfl ?_
        refine K_gyes rfl rfl ?_
        refine KV (R_cmp rfl rfl rfl) rfl ?_
        refine KV (R_pickT rfl rfl) rfl ?_
        refine KV (R_assign rfl) rfl ?_
        refine K_nil ?_
        refine Q_then ?_
        refine K_seq ?_
        refine K_seq ?_
        refine K_region ?_
        refine KV (R_assign rfl) rfl ?_
        refine K_nil ?_
        refine Q_then ?_
        refine K_block ?_
        refine K_loopD (G := Nat × View) [12, 13, 42, 43, 44, 45, 46, 47, 48, 49, 50, 51, 52, 53, 54, 55, 56, 57, 58, 59, 60] (fun g => [(13, .int .i64 (g.1 : Int)), (12, .bool (decide (a.rules[i].sym = sym ∧ a.rules[i].to = (s : Int)) && hasAll ls a.rules[i].args g.1))]) (fun hl g => hl) (fun g => g.2) (fun g => (g.1 ≤ ls.length) ∧ (VLe U g.2)) (fun g => ls.length - g.1) (0, U) ⟨Nat.zero_le _, VLe.refl _⟩ ⟨rfl, congrArg (fun z => some (Value.bool z)) (by simp [h36, hasAll]), trivial⟩ (by simp only [args0, Nat.reduceAdd, del, memN, beqN, Nat.reduceBEq, cond_true, cond_false]; rfl) rfl rfl ?_
        rintro ⟨k, U2⟩ ⟨hk, hU2⟩
        dsimp only at hk hU2
        dsimp only [List.set, List.cons_append, List.nil_append]
        refine K_seq ?_
        refine K_seq ?_
        refine K_region ?_
        refine KV (R_move rfl) rfl ?_
        refine KV (R_move rfl) rfl ?_
        refine K_splitB ?_ ?_
        ·
          intro h43
          refine K_gyes rfl rfl ?_
          refine KV (R_move rfl) rfl ?_
          refine K_gyes rfl rfl ?_
          refine KV (R_move rfl) rfl ?_
          refine K_gyes rfl rfl ?_
          refine KV (R_len sl44 rfl) rfl ?_
          refine K_gyes rfl rfl ?_
          refine KV (R_cmp rfl rfl rfl) rfl ?_
          refine KV (R_pickT rfl rfl) rfl ?_
          refine K_nil ?_
          refine Q_then ?_
          refine K_if rfl (fun h48 => ?_) (fun h48 => ?_)
          ·
            have hk' : k < ls.length := by omega
            have hsy : a.rules[i].sym = sym ∧ a.rules[i].to = (s : Int) := by simpa using (Bool.and_eq_true_iff.1 h43).1
            have hal3 := hal2 hsy.1
            have hkx : k < a.rules[i].args.length := by omega
            obtain ⟨lb, lo, ea, ecp, hle, hta, hes⟩ := (hls.mono (hV.trans (hVU.trans hU2))).get hk'
            cases hle
            obtain ⟨fb, fo, hfe, hfa⟩ := (hsr.mono hU2).get hkx
            cases hfe
            refine K_skip ?_
            refine Q_then ?_
            refine K_seq ?_
            refine K_block ?_
            refine K_regionD (fin := false) (R := [0, 1, 2, 3, 4, 5, 6, 7, 8, 9, 10]) (by kernel_rfl) mixed (.cons_cons _ (.cons_cons _ (.cons_cons _ (List.nil_sublist _)))) ?_
            refine D_val rfl rfl rfl (R_move rfl) ?_
            refine D_val rfl rfl rfl (R_move rfl) ?_
            refine D_val rfl rfl rfl (R_indexN sl44 ty25 rfl rfl (by omega)) ?_
            refine D_val rfl rfl rfl (R_loadH ty25 rfl (hta) rfl (fun _ => rfl) rfl) ?_
            refine D_val rfl rfl rfl (R_fieldAddr 1 fd100_1 rfl) ?_
            refine D_val rfl rfl rfl (R_loadO ty25 0 rfl rfl rfl rfl (fun _ => rfl) rfl) ?_
            refine D_val rfl rfl rfl (R_move rfl) ?_
            refine D_val rfl rfl rfl (R_indexN sl25 ty3 rfl rfl (by omega)) ?_
            refine D_val rfl rfl rfl (R_loadH ty3 rfl (hfa) rfl (fun _ => rfl) rfl) ?_
            refine D_call rfl rfl c62 rfl ⟨⟨0, rfl⟩, ⟨1, rfl⟩, ⟨2, rfl⟩, trivial⟩ (rhas_spec a.rules[i].args[k] ls[k] _ U2 hes (Nat.le_trans (hli _ (List.getElem_mem hk')) (by decide))) ?_
            rintro _ U3 hU3 rfl
            refine D_val rfl rfl rfl (R_assign rfl) ?_
            refine D_done ?_
            refine Q_block ?_
            refine Q_then ?_
            refine K_region ?_
            refine KV (R_move rfl) rfl ?_
            refine KV (R_add rfl rfl (by omega)) rfl ?_
            refine KV (R_assign rfl) rfl ?_
            refine K_nil ?_
            refine Q_nextD (k + 1, U3) ⟨hk', hU2.trans hU3⟩ (by (try dsimp only); omega) ⟨rfl, congrArg (fun z => some (Value.bool z)) (by rw [hasAll_succ, ← Bool.and_assoc, h43, Bool.true_and]; simp [List.getD, hk', hkx]), trivial⟩ rfl rfl rfl
          ·
            have hk' : k = ls.length := by omega
            have hf : fitR sym (s : Int) ls a.rules[i] = (decide (a.rules[i].sym = sym ∧ a.rules[i].to = (s : Int)) && hasAll ls a.rules[i].args k) := by rw [hk']; rfl
            refine K_exit ?_
            refine Q_then_exit ?_
            refine Q_then_exit ?_
            refine Q_block_exit ?_
            refine Q_then ?_
            refine K_region ?_
            refine KV (R_move rfl) rfl ?_
            refine KV (R_move rfl) rfl ?_
            refine K_splitB ?_ ?_
            ·
              intro h62
              refine K_gno rfl rfl rfl rfl ?_
              refine KV (R_pickT rfl rfl) rfl ?_
              refine KV (R_assign rfl) rfl ?_
              refine K_nil ?_
              refine Q_block ?_
              refine Q_then ?_
              refine K_region ?_
              refine KV (R_move rfl) rfl ?_
              refine KV (R_add rfl rfl (by omega)) rfl ?_
              refine KV (R_assign rfl) rfl ?_
              refine K_nil ?_
              refine KQ_sel [1, 1] rfl ?_
              refine Q_nextD (i + 1, U2) ⟨hi', hVU.trans hU2⟩ (by (try dsimp only); omega) ⟨rfl, congrArg (fun z => some (Value.bool z)) (by rw [any_succ hi', h62]; rfl), trivial⟩ rfl rfl rfl
            ·
              intro h62
              refine K_gyes rfl rfl ?_
              refine KV (R_move rfl) rfl ?_
              refine KV (R_pickF rfl rfl) rfl ?_
              refine KV (R_assign rfl) rfl ?_
              refine K_nil ?_
              refine Q_block ?_
              refine Q_then ?_
              refine K_region ?_
              refine KV (R_move rfl) rfl ?_
              refine KV (R_add rfl rfl (by omega)) rfl ?_
              refine KV (R_assign rfl) rfl ?_
              refine K_nil ?_
              refine KQ_sel [1, 1] rfl ?_
              refine Q_nextD (i + 1, U2) ⟨hi', hVU.trans hU2⟩ (by (try dsimp only); omega) ⟨rfl, congrArg (fun z => some (Value.bool z)) (by rw [any_succ hi', h62, hf]; simp), trivial⟩ rfl rfl rfl
        ·
          intro h43
          have hf : fitR sym (s : Int) ls a.rules[i] = (decide (a.rules[i].sym = sym ∧ a.rules[i].to = (s : Int)) && hasAll ls a.rules[i].args k) := by
            rw [h43]
            unfold fitR
            rcases Bool.and_eq_false_iff.1 h43 with h | h
            · rw [h]; rfl
            · rw [hasAll_false h hk, Bool.and_false]
          refine K_gno rfl rfl rfl rfl ?_
          refine K_gno rfl rfl rfl rfl ?_
          refine K_gno rfl rfl rfl rfl ?_
          refine K_gno rfl rfl rfl rfl ?_
          refine KV (R_pickF rfl rfl) rfl ?_
          refine K_nil ?_
          refine Q_then ?_
          refine K_ifF rfl ?_
          refine K_exit ?_
          refine Q_then_exit ?_
          refine Q_then_exit ?_
          refine Q_block_exit ?_
          refine Q_then ?_
          refine K_region ?_
          refine KV (R_move rfl) rfl ?_
          refine KV (R_move rfl) rfl ?_
          refine K_splitB ?_ ?_
          ·
            intro h62
            refine K_gno rfl rfl rfl rfl ?_
            refine KV (R_pickT rfl rfl) rfl ?_
            refine KV (R_assign rfl) rfl ?_
            refine K_nil ?_
            refine Q_block ?_
            refine Q_then ?_
            refine K_region ?_
            refine KV (R_move rfl) rfl ?_
            refine KV (R_add rfl rfl (by omega)) rfl ?_
            refine KV (R_assign rfl) rfl ?_
            refine K_nil ?_
            refine KQ_sel [1, 1] rfl ?_
            refine Q_nextD (i + 1, U2) ⟨hi', hVU.trans hU2⟩ (by (try dsimp only); omega) ⟨rfl, congrArg (fun z => some (Value.bool z)) (by rw [any_succ hi', h62]; rfl), trivial⟩ rfl rfl rfl
          ·
            intro h62
            refine K_gyes rfl rfl ?_
            refine KV (R_move rfl) rfl ?_
            refine KV (R_pickF rfl rfl) rfl ?_
            refine KV (R_assign rfl) rfl ?_
            refine K_nil ?_
            refine Q_block ?_
            refine Q_then ?_
            refine K_region ?_
            refine KV (R_move rfl) rfl ?_
            refine KV (R_add rfl rfl (by omega)) rfl ?_
            refine KV (R_assign rfl) rfl ?_
            refine K_nil ?_
            refine KQ_sel [1, 1] rfl ?_
            refine Q_nextD (i + 1, U2) ⟨hi', hVU.trans hU2⟩ (by (try dsimp only); omega) ⟨rfl, congrArg (fun z => some (Value.bool z)) (by rw [any_succ hi', h62, hf]; simp), trivial⟩ rfl rfl rfl
      ·
        intro h36
        refine K_gno rfl rfl rfl rfl ?_
        refine K_gno rfl rfl rfl rfl ?_
        refine K_gno rfl rfl rfl rfl ?_
        refine K_gno rfl rfl rfl rfl ?_
        refine KV (R_pickF rfl rfl) rfl ?_
        refine KV (R_assign rfl) rfl ?_
        refine K_nil ?_
        refine Q_then ?_
        refine K_seq ?_
        refine K_seq ?_
        refine K_region ?_
        refine KV (R_assign rfl) rfl ?_
        refine K_nil ?_
        refine Q_then ?_
        refine K_block ?_
        refine K_loopD (G := Nat × View) [12, 13, 42, 43, 44, 45, 46, 47, 48, 49, 50, 51, 52, 53, 54, 55, 56, 57, 58, 59, 60] (fun g => [(13, .int .i64 (g.1 : Int)), (12, .bool (decide (a.rules[i].sym = sym ∧ a.rules[i].to = (s : Int)) && hasAll ls a.rules[i].args g.1))]) (fun hl g => hl) (fun g => g.2) (fun g => (g.1 ≤ ls.length) ∧ (VLe U g.2)) (fun g => ls.length - g.1) (0, U) ⟨Nat.zero_le _, VLe.refl _⟩ ⟨rfl, congrArg (fun z => some (Value.bool z)) (by simp [h36, hasAll]), trivial⟩ (by simp only [args0, Nat.reduceAdd, del, memN, beqN, Nat.reduceBEq, cond_true, cond_false]; rfl) rfl rfl ?_
        rintro ⟨k, U2⟩ ⟨hk, hU2⟩
        dsimp only at hk hU2
        dsimp only [List.set, List.cons_append, List.nil_append]
        refine K_seq ?_
        refine K_seq ?_
        refine K_region ?_
        refine KV (R_move rfl) rfl ?_
        refine KV (R_move rfl) rfl ?_
        refine K_splitB ?_ ?_
        ·
          intro h43
          refine K_gyes rfl rfl ?_
          refine KV (R_move rfl) rfl ?_
          refine K_gyes rfl rfl ?_
          refine KV (R_move rfl) rfl ?_
          refine K_gyes rfl rfl ?_
          refine KV (R_len sl44 rfl) rfl ?_
          refine K_gyes rfl rfl ?_
          refine KV (R_cmp rfl rfl rfl) rfl ?_
          refine KV (R_pickT rfl rfl) rfl ?_
          refine K_nil ?_
          refine Q_then ?_
          refine K_if rfl (fun h48 => ?_) (fun h48 => ?_)
          ·
            have hk' : k < ls.length := by omega
            have hsy : a.rules[i].sym = sym ∧ a.rules[i].to = (s : Int) := by simpa using (Bool.and_eq_true_iff.1 h43).1
            have hal3 := hal2 hsy.1
            have hkx : k < a.rules[i].args.length := by omega
            obtain ⟨lb, lo, ea, ecp, hle, hta, hes⟩ := (hls.mono (hV.trans (hVU.trans hU2))).get hk'
            cases hle
            obtain ⟨fb, fo, hfe, hfa⟩ := (hsr.mono hU2).get hkx
            cases hfe
            refine K_skip ?_
            refine Q_then ?_
            refine K_seq ?_
            refine K_block ?_
            refine K_regionD (fin := false) (R := [0, 1, 2, 3, 4, 5, 6, 7, 8, 9, 10]) (by kernel_rfl) mixed (.cons_cons _ (.cons_cons _ (.cons_cons _ (List.nil_sublist _)))) ?_
            refine D_val rfl rfl rfl (R_move rfl) ?_
            refine D_val rfl rfl rfl (R_move rfl) ?_
            refine D_val rfl rfl rfl (R_indexN sl44 ty25 rfl rfl (by omega)) ?_
            refine D_val rfl rfl rfl (R_loadH ty25 rfl (hta) rfl (fun _ => rfl) rfl) ?_
            refine D_val rfl rfl rfl (R_fieldAddr 1 fd100_1 rfl) ?_
            refine D_val rfl rfl rfl (R_loadO ty25 0 rfl rfl rfl rfl (fun _ => rfl) rfl) ?_
            refine D_val rfl rfl rfl (R_move rfl) ?_
            refine D_val rfl rfl rfl (R_indexN sl25 ty3 rfl rfl (by omega)) ?_
            refine D_val rfl rfl rfl (R_loadH ty3 rfl (hfa) rfl (fun _ => rfl) rfl) ?_
            refine D_call rfl rfl c62 rfl ⟨⟨0, rfl⟩, ⟨1, rfl⟩, ⟨2, rfl⟩, trivial⟩ (rhas_spec a.rules[i].args[k] ls[k] _ U2 hes (Nat.le_trans (hli _ (List.getElem_mem hk')) (by decide))) ?_
            rintro _ U3 hU3 rfl
            refine D_val rfl rfl rfl (R_assign rfl) ?_
            refine D_done ?_
            refine Q_block ?_
            refine Q_then ?_
            refine K_region ?_
            refine KV (R_move rfl) rfl ?_
            refine KV (R_add rfl rfl (by omega)) rfl ?_
            refine KV (R_assign rfl) rfl ?_
            refine K_nil ?_
            refine Q_nextD (k + 1, U3) ⟨hk', hU2.trans hU3⟩ (by (try dsimp only); omega) ⟨rfl, congrArg (fun z => some (Value.bool z)) (by rw [hasAll_succ, ← Bool.and_assoc, h43, Bool.true_and]; simp [List.getD, hk', hkx]), trivial⟩ rfl rfl rfl
          ·
            have hk' : k = ls.length := by omega
            have hf : fitR sym (s : Int) ls a.rules[i] = (decide (a.rules[i].sym = sym ∧ a.rules[i].to = (s : Int)) && hasAll ls a.rules[i].args k) := by rw [hk']; rfl
            refine K_exit ?_
            refine Q_then_exit ?_
            refine Q_then_exit ?_
            refine Q_block_exit ?_
            refine Q_then ?_
            refine K_region ?_
            refine KV (R_move rfl) rfl ?_
            refine KV (R_move rfl) rfl ?_
            refine K_splitB ?_ ?_
            ·
              intro h62
              refine K_gno rfl rfl rfl rfl ?_
              refine KV (R_pickT rfl rfl) rfl ?_
              refine KV (R_assign rfl) rfl ?_
              refine K_nil ?_
              refine Q_block ?_
              refine Q_then ?_
              refine K_region ?_
              refine KV (R_move rfl) rfl ?_
              refine KV (R_add rfl rfl (by omega)) rfl ?_
              refine KV (R_assign rfl) rfl ?_
              refine K_nil ?_
              refine KQ_sel [1, 1] rfl ?_
              refine Q_nextD (i + 1, U2) ⟨hi', hVU.trans hU2⟩ (by (try dsimp only); omega) ⟨rfl, congrArg (fun z => some (Value.bool z)) (by rw [any_succ hi', h62]; rfl), trivial⟩ rfl rfl rfl
            ·
              intro h62
              refine K_gyes rfl rfl ?_
              refine KV (R_move rfl) rfl ?_
              refine KV (R_pickF rfl rfl) rfl ?_
              refine KV (R_assign rfl) rfl ?_
              refine K_nil ?_
              refine Q_block ?_
              refine Q_then ?_
              refine K_region ?_
              refine KV (R_move rfl) rfl ?_
              refine KV (R_add rfl rfl (by omega)) rfl ?_
              refine KV (R_assign rfl) rfl ?_
              refine K_nil ?_
              refine KQ_sel [1, 1] rfl ?_
              refine Q_nextD (i + 1, U2) ⟨hi', hVU.trans hU2⟩ (by (try dsimp only); omega) ⟨rfl, congrArg (fun z => some (Value.bool z)) (by rw [any_succ hi', h62, hf]; simp), trivial⟩ rfl rfl rfl
        ·
          intro h43
          have hf : fitR sym (s : Int) ls a.rules[i] = (decide (a.rules[i].sym = sym ∧ a.rules[i].to = (s : Int)) && hasAll ls a.rules[i].args k) := by
            rw [h43]
            unfold fitR
            rcases Bool.and_eq_false_iff.1 h43 with h | h
            · rw [h]; rfl
            · rw [hasAll_false h hk, Bool.and_false]
          refine K_gno rfl rfl rfl rfl ?_
          refine K_gno rfl rfl rfl rfl ?_
          refine K_gno rfl rfl rfl rfl ?_
          refine K_gno rfl rfl rfl rfl ?_
          refine KV (R_pickF rfl rfl) rfl ?_
          refine K_nil ?_
          refine Q_then ?_
          refine K_ifF rfl ?_
          refine K_exit ?_
          refine Q_then_exit ?_
          refine Q_then_exit ?_
          refine Q_block_exit ?_
          refine Q_then ?_
          refine K_region ?_
          refine KV (R_move rfl) rfl ?_
          refine KV (R_move rfl) rfl ?_
          refine K_splitB ?_ ?_
          ·
            intro h62
            refine K_gno rfl rfl rfl rfl ?_
            refine KV (R_pickT rfl rfl) rfl ?_
            refine KV (R_assign rfl) rfl ?_
            refine K_nil ?_
            refine Q_block ?_
            refine Q_then ?_
            refine K_region ?_
            refine KV (R_move rfl) rfl ?_
            refine KV (R_add rfl rfl (by omega)) rfl ?_
            refine KV (R_assign rfl) rfl ?_
            refine K_nil ?_
            refine KQ_sel [1, 1] rfl ?_
            refine Q_nextD (i + 1, U2) ⟨hi', hVU.trans hU2⟩ (by (try dsimp only); omega) ⟨rfl, congrArg (fun z => some (Value.bool z)) (by rw [any_succ hi', h62]; rfl), trivial⟩ rfl rfl rfl
          ·
            intro h62
            refine K_gyes rfl rfl ?_
            refine KV (R_move rfl) rfl ?_
            refine KV (R_pickF rfl rfl) rfl ?_
            refine KV (R_assign rfl) rfl ?_
            refine K_nil ?_
            refine Q_block ?_
            refine Q_then ?_
            refine K_region ?_
            refine KV (R_move rfl) rfl ?_
            refine KV (R_add rfl rfl (by omega)) rfl ?_
            refine KV (R_assign rfl) rfl ?_
            refine K_nil ?_
            refine KQ_sel [1, 1] rfl ?_
            refine Q_nextD (i + 1, U2) ⟨hi', hVU.trans hU2⟩ (by (try dsimp only); omega) ⟨rfl, congrArg (fun z => some (Value.bool z)) (by rw [any_succ hi', h62, hf]; simp), trivial⟩ rfl rfl rfl
    ·
      have hi' : i = a.rules.length := by omega
      subst hi'
      rw [List.take_length]
      refine K_exit ?_
      refine Q_then_exit ?_
      refine Q_then_exit ?_
      refine Q_block_exit ?_
      refine Q_then ?_
      refine K_seq ?_
      refine K_region ?_
      refine KV (R_move rfl) rfl ?_
      refine K_nil ?_
      refine Q_then ?_
      refine K_ifB rfl (fun h65 => ?_) (fun h65 => ?_)
      ·
        refine K_region ?_
        refine KV (R_move rfl) rfl ?_
        refine KV (R_move rfl) rfl ?_
        refine KA (A_buildSlice (vs := [.int .i64 (s : Int)]) sl25 ty3 z3 rfl rfl (by simp [Value.cells]) (by simp) rfl (by decide)) rfl fun b68 => ?_
        refine K_append1 0 ap25 rfl rfl rfl rfl rfl rfl ⟨by omega, by omega⟩ rfl fun a69 k69 hn69 => ?_
        refine KV (R_assign rfl) rfl ?_
        refine K_nil ?_
        refine Q_block ?_
        refine Q_then ?_
        refine K_region ?_
        refine KV (R_move rfl) rfl ?_
        refine KV (R_add rfl rfl (by omega)) rfl ?_
        refine KV (R_assign rfl) rfl ?_
        refine K_nil ?_
        refine Q_nextD (s + 1, U, .slice a69 ((nextTo a sym ls s).length + 1) k69) ⟨hs', hV.trans hVU, _, _, by rw [nextTo_yes h65, List.length_append]; rfl⟩ (by (try dsimp only); omega) ⟨rfl, rfl, trivial⟩ rfl (by dsimp only; rw [nextTo_yes h65, List.length_append, ints_snoc]; rfl) rfl
      ·
        refine K_skip ?_
        refine Q_block ?_
        refine Q_then ?_
        refine K_region ?_
        refine KV (R_move rfl) rfl ?_
        refine KV (R_add rfl rfl (by omega)) rfl ?_
        refine KV (R_assign rfl) rfl ?_
        refine K_nil ?_
        refine Q_nextD (s + 1, U, .slice wa (nextTo a sym ls s).length wcp) ⟨hs', hV.trans hVU, _, _, by rw [nextTo_no h65]⟩ (by (try dsimp only); omega) ⟨rfl, rfl, trivial⟩ rfl (by dsimp only; rw [nextTo_no h65]) rfl
  ·
    have hs' : s = a.states.toNat := by omega
    refine K_exit ?_
    refine Q_then_exit ?_
    refine Q_then_exit ?_
    refine Q_block_exit ?_
    refine Q_then ?_
    refine K_seq ?_
    refine K_region ?_
    refine KV (R_move rfl) rfl ?_
    refine KV (R_assign rfl) rfl ?_
    refine K_nil ?_
    refine Q_then ?_
    refine K_ret ?_
    subst hs'
    refine KQ_pubrow rfl fun Hp hp hrow => ?_
    refine results_gen (rs := [.tmp 6]) (vs := [_]) rfl ⟨rfl, trivial⟩ ?_
    exact ⟨hrow.sl, fun x hx => by
      obtain ⟨t, ht, rfl⟩ := List.mem_map.1 hx
      have := List.mem_range.1 (List.mem_filter.1 ht).1
      simp only [i64ok]; omega⟩
end Go.Proofs.X

namespace Go.Proofs.X
open Go Pal Go.Proofs
attribute [local irreducible] Pal.KO Pal.KC Pal.KQ Pal.KD
theorem ty42 : Ty Tryd.prog T42 true 4 := .of (by kernel_rfl)
theorem fd42_0 : fldOk Tryd.prog T42 0 0 = true := by kernel_rfl
theorem fd42_3 : fldOk Tryd.prog T42 3 3 = true := by kernel_rfl
theorem c36 : callable Tryd.prog F36 = true := by kernel_rfl
theorem c55 : callable Tryd.prog F55 = true := by kernel_rfl
theorem rcheck31_spec (xs : List Int) (v : Value) (H : View) (hv : SI H v xs) (hl : xs.length ≤ 1099511627776) : Sat Tryd.prog F36 #[v] H (fun r _ => r = .int .i64 (ranksErr xs)) := by
  obtain ⟨a, cp, rfl⟩ := hv.shape
  refine enterO (n := 40) (args := [.slice a xs.length cp]) Tryd.func36 rfl rfl rfl fun w0 => ?_
  refine K_seq ?_
  refine K_region ?_
  refine KV (R_assign rfl) rfl ?_
  refine K_nil ?_
  refine Q_then ?_
  refine K_seq ?_
  refine K_seq ?_
  refine K_region ?_
  refine KV (R_move rfl) rfl ?_
  refine KV (R_len sl25 rfl) rfl ?_
  refine KV (R_cmp rfl rfl rfl) rfl ?_
  refine KV (R_move rfl) rfl ?_
  refine K_split ?_ ?_
  ·
    intro h8
    refine K_gno rfl rfl rfl rfl ?_
    refine K_gno rfl rfl rfl rfl ?_
    refine K_gno rfl rfl rfl rfl ?_
    refine KV (R_pickT rfl rfl) rfl ?_
    refine K_nil ?_
    refine Q_then ?_
    refine K_ifT rfl ?_
    refine K_seq ?_
    refine K_region ?_
    refine KV (R_assign rfl) rfl ?_
    refine K_nil ?_
    refine Q_then ?_
    refine K_ret ?_
    refine Q_then_ret ?_
    refine results_gen (rs := [.tmp 2]) (vs := [_]) rfl ⟨rfl, trivial⟩ ?_
    simp only [tupV, ranksErr]
    rw [if_pos (.inl (by omega))]
  ·
    intro h8
    refine K_gyes rfl rfl ?_
    refine KV (R_move rfl) rfl ?_
    refine K_gyes rfl rfl ?_
    refine KV (R_len sl25 rfl) rfl ?_
    refine K_gyes rfl rfl ?_
    refine KV (R_cmp rfl rfl rfl) rfl ?_
    refine KV (R_pickF rfl rfl) rfl ?_
    refine K_nil ?_
    refine Q_then ?_
    refine K_if rfl (fun h12 => ?_) (fun h12 => ?_)
    ·
      refine K_seq ?_
      refine K_region ?_
      refine KV (R_assign rfl) rfl ?_
      refine K_nil ?_
      refine Q_then ?_
      refine K_ret ?_
      refine Q_then_ret ?_
      refine results_gen (rs := [.tmp 2]) (vs := [_]) rfl ⟨rfl, trivial⟩ ?_
      simp only [tupV, ranksErr]
      rw [if_pos (.inr (by omega))]
    ·
      refine K_skip ?_
      refine Q_then ?_
      refine K_seq ?_
      refine K_region ?_
      refine KV (R_assign rfl) rfl ?_
      refine K_nil ?_
      refine Q_then ?_
      refine K_seq ?_
      refine K_seq ?_
      refine K_region ?_
      refine KV (R_assign rfl) rfl ?_
      refine K_nil ?_
      refine Q_then ?_
      refine K_block ?_
      refine K_loopD (G := Nat) [2, 3, 4, 13, 14, 15, 16, 17, 18, 19, 20, 21, 22, 23, 24, 25, 26, 27, 28, 29, 30, 31, 32, 33, 34, 35, 36, 37, 38] (fun g => [(4, .int .i64 (g : Int)), (3, .bool ((xs.take g).all fun x => decide (0 < x)))]) (fun hl g => hl) (fun g => H) (fun g => (g ≤ xs.length) ∧ (∀ j (h : j < xs.length), j < g → ¬ (xs[j] < 0 ∨ 2 < xs[j]))) (fun g => xs.length - g) 0 ⟨Nat.zero_le _, fun j _ h => by simp at h⟩ ⟨rfl, rfl, trivial⟩ (by simp only [args0, Nat.reduceAdd, del, memN, beqN, Nat.reduceBEq, cond_true, cond_false]; rfl) rfl rfl ?_
      rintro k ⟨hk, hno⟩
      try dsimp only at hk
      try dsimp only at hno
      dsimp only [List.set, List.cons_append, List.nil_append]
      refine K_seq ?_
      refine K_seq ?_
      refine K_region ?_
      refine KV (R_move rfl) rfl ?_
      refine KV (R_move rfl) rfl ?_
      refine KV (R_len sl25 rfl) rfl ?_
      refine KV (R_cmp rfl rfl rfl) rfl ?_
      refine K_nil ?_
      refine Q_then ?_
      refine K_if rfl (fun h16 => ?_) (fun h16 => ?_)
      ·
        have hk' : k < xs.length := by omega
        obtain ⟨tb, to_, rfl, hta⟩ := hv.get hk'
        refine K_skip ?_
        refine Q_then ?_
        refine K_seq ?_
        refine K_block ?_
        refine K_seq ?_
        refine K_seq ?_
        refine K_region ?_
        refine KV (R_move rfl) rfl ?_
        refine KV (R_move rfl) rfl ?_
        refine KV (R_indexN sl25 ty3 rfl rfl (by omega)) rfl ?_
        refine KV (R_loadH ty3 rfl (hta) rfl (fun _ => rfl) rfl) rfl ?_
        refine KV (R_cmp rfl rfl rfl) rfl ?_
        refine KV (R_move rfl) rfl ?_
        refine K_split ?_ ?_
        ·
          intro h24
          refine K_gno rfl rfl rfl rfl ?_
          refine K_gno rfl rfl rfl rfl ?_
          refine K_gno rfl rfl rfl rfl ?_
          refine K_gno rfl rfl rfl rfl ?_
          refine K_gno rfl rfl rfl rfl ?_
          refine KV (R_pickT rfl rfl) rfl ?_
          refine K_nil ?_
          refine Q_then ?_
          refine K_ifT rfl ?_
          refine K_seq ?_
          refine K_region ?_
          refine KV (R_assign rfl) rfl ?_
          refine K_nil ?_
          refine Q_then ?_
          refine K_ret ?_
          refine Q_then_ret ?_
          refine Q_block_ret ?_
          refine Q_then_ret ?_
          refine Q_then_ret ?_
          refine Q_block_ret ?_
          refine Q_then_ret ?_
          refine results_gen (rs := [.tmp 2]) (vs := [_]) rfl ⟨rfl, trivial⟩ ?_
          have hany : (xs.any fun x => decide (x < 0 ∨ 2 < x)) = true := List.any_eq_true.2 ⟨_, List.getElem_mem hk', by simp; omega⟩
          simp only [tupV, ranksErr]
          rw [if_neg (by omega), if_pos hany]
        ·
          intro h24
          refine K_gyes rfl rfl ?_
          refine KV (R_move rfl) rfl ?_
          refine K_gyes rfl rfl ?_
          refine KV (R_move rfl) rfl ?_
          refine K_gyes rfl rfl ?_
          refine KV (R_indexN sl25 ty3 rfl rfl (by omega)) rfl ?_
          refine K_gyes rfl rfl ?_
          refine KV (R_loadH ty3 rfl (hta) rfl (fun _ => rfl) rfl) rfl ?_
          refine K_gyes rfl rfl ?_
          refine KV (R_cmp rfl rfl rfl) rfl ?_
          refine KV (R_pickF rfl rfl) rfl ?_
          refine K_nil ?_
          refine Q_then ?_
          refine K_if rfl (fun h30 => ?_) (fun h30 => ?_)
          ·
            refine K_seq ?_
            refine K_region ?_
            refine KV (R_assign rfl) rfl ?_
            refine K_nil ?_
            refine Q_then ?_
            refine K_ret ?_
            refine Q_then_ret ?_
            refine Q_block_ret ?_
            refine Q_then_ret ?_
            refine Q_then_ret ?_
            refine Q_block_ret ?_
            refine Q_then_ret ?_
            refine results_gen (rs := [.tmp 2]) (vs := [_]) rfl ⟨rfl, trivial⟩ ?_
            have hany : (xs.any fun x => decide (x < 0 ∨ 2 < x)) = true := List.any_eq_true.2 ⟨_, List.getElem_mem hk', by simp; omega⟩
            simp only [tupV, ranksErr]
            rw [if_neg (by omega), if_pos hany]
          ·
            have hno2 : ∀ j (h : j < xs.length), j < k + 1 → ¬ (xs[j] < 0 ∨ 2 < xs[j]) := by
              intro j h hj
              by_cases e : j = k
              · subst e; omega
              · exact hno j h (by omega)
            refine K_skip ?_
            refine Q_then ?_
            refine K_region ?_
            refine KV (R_move rfl) rfl ?_
            refine KV (R_move rfl) rfl ?_
            refine K_splitB ?_ ?_
            ·
              intro h32
              refine K_gyes rfl rfl ?_
              refine KV (R_move rfl) rfl ?_
              refine K_gyes rfl rfl ?_
              refine KV (R_move rfl) rfl ?_
              refine K_gyes rfl rfl ?_
              refine KV (R_indexN sl25 ty3 rfl rfl (by omega)) rfl ?_
              refine K_gyes rfl rfl ?_
              refine KV (R_loadH ty3 rfl (hta) rfl (fun _ => rfl) rfl) rfl ?_
              refine K_gyes rfl rfl ?_
              refine KV (R_cmp rfl rfl rfl) rfl ?_
              refine KV (R_pickT rfl rfl) rfl ?_
              refine KV (R_assign rfl) rfl ?_
              refine K_nil ?_
              refine Q_block ?_
              refine Q_then ?_
              refine K_region ?_
              refine KV (R_move rfl) rfl ?_
              refine KV (R_add rfl rfl (by omega)) rfl ?_
              refine KV (R_assign rfl) rfl ?_
              refine K_nil ?_
              refine Q_nextD (k + 1) ⟨hk', hno2⟩ (by (try dsimp only); omega) ⟨rfl, congrArg (fun z => some (Value.bool z)) (by rw [all_succ hk', h32]; rfl), trivial⟩ rfl rfl rfl
            ·
              intro h32
              refine K_gno rfl rfl rfl rfl ?_
              refine K_gno rfl rfl rfl rfl ?_
              refine K_gno rfl rfl rfl rfl ?_
              refine K_gno rfl rfl rfl rfl ?_
              refine K_gno rfl rfl rfl rfl ?_
              refine KV (R_pickF rfl rfl) rfl ?_
              refine KV (R_assign rfl) rfl ?_
              refine K_nil ?_
              refine Q_block ?_
              refine Q_then ?_
              refine K_region ?_
              refine KV (R_move rfl) rfl ?_
              refine KV (R_add rfl rfl (by omega)) rfl ?_
              refine KV (R_assign rfl) rfl ?_
              refine K_nil ?_
              refine Q_nextD (k + 1) ⟨hk', hno2⟩ (by (try dsimp only); omega) ⟨rfl, congrArg (fun z => some (Value.bool z)) (by rw [all_succ hk', h32]; rfl), trivial⟩ rfl rfl rfl
      ·
        have hk' : k = xs.length := by omega
        subst hk'
        rw [List.take_length]
        have hany : (xs.any fun x => decide (x < 0 ∨ 2 < x)) = false := by
          rw [List.any_eq_false]
          intro x hx
          obtain ⟨j, hj, rfl⟩ := List.getElem_of_mem hx
          simpa using hno j hj hj
        refine K_exit ?_
        refine Q_then_exit ?_
        refine Q_then_exit ?_
        refine Q_block_exit ?_
        refine Q_then ?_
        refine K_seq ?_
        refine K_seq ?_
        refine K_region ?_
        refine KV (R_move rfl) rfl ?_
        refine K_nil ?_
        refine Q_then ?_
        refine K_ifB rfl (fun h39 => ?_) (fun h39 => ?_)
        ·
          refine K_seq ?_
          refine K_region ?_
          refine KV (R_assign rfl) rfl ?_
          refine K_nil ?_
          refine Q_then ?_
          refine K_ret ?_
          refine Q_then_ret ?_
          refine results_gen (rs := [.tmp 2]) (vs := [_]) rfl ⟨rfl, trivial⟩ ?_
          have h0 : ¬ (0 : Int) ∈ xs := by
            intro hm
            have := List.all_eq_true.1 h39 0 hm
            simp at this
          simp only [tupV, ranksErr]
          rw [if_neg (by omega), if_neg (by rw [hany]; simp), if_pos h0]
        ·
          refine K_skip ?_
          refine Q_then ?_
          refine K_seq ?_
          refine K_region ?_
          refine KV (R_assign rfl) rfl ?_
          refine K_nil ?_
          refine Q_then ?_
          refine K_ret ?_
          refine results_gen (rs := [.tmp 2]) (vs := [_]) rfl ⟨rfl, trivial⟩ ?_
          have h0 : (0 : Int) ∈ xs := by
            obtain ⟨x, hx, hx2⟩ := List.all_eq_false.1 h39
            obtain ⟨j, hj, e⟩ := List.getElem_of_mem hx
            have := hno j hj hj
            have h3 : ¬ 0 < x := by simpa using hx2
            have : x = 0 := by rw [e] at this; omega
            exact this ▸ hx
          simp only [tupV, ranksErr]
          rw [if_neg (by omega), if_neg (by rw [hany]; simp), if_neg (by simpa using h0)]

theorem rcheck_spec (a : Au) (vr vu vf : Value) (H : View) (ha : RepAu H a vr vu vf) : Sat Tryd.prog F20 #[.agg #[vr, .int .i64 a.states, vu, vf]] H (fun r _ => r = .int .i64 (auErr a)) := by
  obtain ⟨ra, rcp, rfl⟩ := ha.r.shape
  obtain ⟨fa, fcp, rfl⟩ := ha.f.shape
  obtain ⟨ua, ucp, rfl⟩ := ha.ushape
  have hrl := ha.rl
  have hul := ha.ul
  have hfl := ha.fl
  refine enterO (n := 96) (args := [.agg #[.slice ra a.ranks.length rcp, .int .i64 a.states, .slice ua a.rules.length ucp, .slice fa a.final.length fcp]]) Tryd.func20 rfl rfl rfl fun w0 => ?_
  refine K_seq ?_
  refine K_region ?_
  refine KA (A_box rfl) rfl fun b1 => ?_
  refine KV (R_assign rfl) rfl ?_
  refine K_nil ?_
  refine Q_then ?_
  refine K_seq ?_
  refine K_seq ?_
  refine K_region ?_
  refine KV (R_fieldAddr 0 fd42_0 rfl) rfl ?_
  refine KV (R_loadO ty25 0 rfl rfl rfl rfl (fun _ => rfl) rfl) rfl ?_
  refine K_call c36 rfl rfl (rcheck31_spec a.ranks _ H ha.r hrl) ?_
  rintro _ V1 hle1 rfl
  refine KV (R_assign rfl) rfl ?_
  refine K_nil ?_
  refine Q_then ?_
  refine K_seq ?_
  refine K_region ?_
  refine KV (R_move rfl) rfl ?_
  refine KV (R_cmp rfl rfl rfl) rfl ?_
  refine K_nil ?_
  refine Q_then ?_
  refine K_if rfl (fun h12 => ?_) (fun h12 => ?_)
  ·
    refine K_seq ?_
    refine K_region ?_
    refine KV (R_move rfl) rfl ?_
    refine KV (R_assign rfl) rfl ?_
    refine K_nil ?_
    refine Q_then ?_
    refine K_ret ?_
    refine Q_then_ret ?_
    refine results_gen (rs := [.tmp 2]) (vs := [_]) rfl ⟨rfl, trivial⟩ ?_
    simp only [tupV, auErr]
    rw [if_pos h12]
  ·
    refine K_skip ?_
    refine Q_then ?_
    refine K_seq ?_
    refine K_seq ?_
    refine K_region ?_
    refine KV (R_fieldAddr 1 fd42_1 rfl) rfl ?_
    refine KV (R_loadO ty3 0 rfl rfl rfl rfl (fun _ => rfl) rfl) rfl ?_
    refine KV (R_cmp rfl rfl rfl) rfl ?_
    refine KV (R_move rfl) rfl ?_
    refine K_split ?_ ?_
    ·
      intro h17
      refine K_gno rfl rfl rfl rfl ?_
      refine K_gno rfl rfl rfl rfl ?_
      refine K_gno rfl rfl rfl rfl ?_
      refine KV (R_pickT rfl rfl) rfl ?_
      refine KV (R_move rfl) rfl ?_
      refine K_gno rfl rfl rfl rfl ?_
      refine K_gno rfl rfl rfl rfl ?_
      refine K_gno rfl rfl rfl rfl ?_
      refine K_gno rfl rfl rfl rfl ?_
      refine KV (R_pickT rfl rfl) rfl ?_
      refine K_nil ?_
      refine Q_then ?_
      refine K_ifT rfl ?_
      refine K_seq ?_
      refine K_region ?_
      refine KV (R_assign rfl) rfl ?_
      refine K_nil ?_
      refine Q_then ?_
      refine K_ret ?_
      refine Q_then_ret ?_
      refine results_gen (rs := [.tmp 2]) (vs := [_]) rfl ⟨rfl, trivial⟩ ?_
      simp only [tupV, auErr]
      rw [if_neg h12, if_pos (by omega)]
    ·
      intro h17
      refine K_gyes rfl rfl ?_
      refine KV (R_fieldAddr 1 fd42_1 rfl) rfl ?_
      refine K_gyes rfl rfl ?_
      refine KV (R_loadO ty3 0 rfl rfl rfl rfl (fun _ => rfl) rfl) rfl ?_
      refine K_gyes rfl rfl ?_
      refine KV (R_cmp rfl rfl rfl) rfl ?_
      refine KV (R_pickF rfl rfl) rfl ?_
      refine KV (R_move rfl) rfl ?_
      refine K_split ?_ ?_
      ·
        intro h22
        refine K_gno rfl rfl rfl rfl ?_
        refine K_gno rfl rfl rfl rfl ?_
        refine K_gno rfl rfl rfl rfl ?_
        refine K_gno rfl rfl rfl rfl ?_
        refine KV (R_pickT rfl rfl) rfl ?_
        refine K_nil ?_
        refine Q_then ?_
        refine K_ifT rfl ?_
        refine K_seq ?_
        refine K_region ?_
        refine KV (R_assign rfl) rfl ?_
        refine K_nil ?_
        refine Q_then ?_
        refine K_ret ?_
        refine Q_then_ret ?_
        refine results_gen (rs := [.tmp 2]) (vs := [_]) rfl ⟨rfl, trivial⟩ ?_
        simp only [tupV, auErr]
        rw [if_neg h12, if_pos (by omega)]
      ·
        intro h22
        refine K_gyes rfl rfl ?_
        refine KV (R_fieldAddr 2 fd42_2 rfl) rfl ?_
        refine K_gyes rfl rfl ?_
        refine KV (R_loadO ty40 0 rfl rfl rfl rfl (fun _ => rfl) rfl) rfl ?_
        refine K_gyes rfl rfl ?_
        refine KV (R_len sl40 rfl) rfl ?_
        refine K_gyes rfl rfl ?_
        refine KV (R_cmp rfl rfl rfl) rfl ?_
        refine KV (R_pickF rfl rfl) rfl ?_
        refine K_nil ?_
        refine Q_then ?_
        refine K_if rfl (fun h27 => ?_) (fun h27 => ?_)
        ·
          refine K_seq ?_
          refine K_region ?_
          refine KV (R_assign rfl) rfl ?_
          refine K_nil ?_
          refine Q_then ?_
          refine K_ret ?_
          refine Q_then_ret ?_
          refine results_gen (rs := [.tmp 2]) (vs := [_]) rfl ⟨rfl, trivial⟩ ?_
          simp only [tupV, auErr]
          rw [if_neg h12, if_pos (by omega)]
        ·
          refine K_skip ?_
          refine Q_then ?_
          refine K_seq ?_
          refine K_seq ?_
          refine K_region ?_
          refine KV (R_assign rfl) rfl ?_
          refine K_nil ?_
          refine Q_then ?_
          refine K_block ?_
          refine K_loopD (G := Nat × View) [2, 4, 5, 6, 28, 29, 30, 31, 32, 33, 34, 35, 36, 37, 38, 39, 40, 41, 42, 43, 44, 45, 46, 47, 48, 49, 50, 51, 52, 53, 54, 55, 56, 57, 58, 59, 60, 61, 62, 63, 64, 65, 66, 67, 68, 69, 70, 71, 72, 73, 74, 75, 76, 77, 78, 79, 80] (fun g => [(4, .int .i64 (g.1 : Int))]) (fun hl g => hl) (fun g => g.2) (fun g => (g.1 ≤ a.rules.length) ∧ (VLe H g.2) ∧ (∀ j (hj : j < a.rules.length), j < g.1 → ruleErr a a.rules[j] = 0)) (fun g => a.rules.length - g.1) (0, V1) ⟨Nat.zero_le _, hle1, fun j _ h => by simp at h⟩ ⟨rfl, trivial⟩ (by simp only [args0, Nat.reduceAdd, del, memN, beqN, Nat.reduceBEq, cond_true, cond_false]; rfl) rfl rfl ?_
          rintro ⟨k, V⟩ ⟨hk, hV, hno⟩
          dsimp only at hk hV hno
          dsimp only [List.set, List.cons_append, List.nil_append]
          have hbase : auErr a = if rulesErr a a.rules ≠ 0 then rulesErr a a.rules else if (a.final.any (badQ a.states)) = true then 2 else 0 := by
            unfold auErr
            rw [if_neg h12, if_neg (by omega)]
          refine K_seq ?_
          refine K_seq ?_
          refine K_region ?_
          refine KV (R_move rfl) rfl ?_
          refine KV (R_fieldAddr 2 fd42_2 rfl) rfl ?_
          refine KV (R_loadO ty40 0 rfl rfl rfl rfl (fun _ => rfl) rfl) rfl ?_
          refine KV (R_len sl40 rfl) rfl ?_
          refine KV (R_cmp rfl rfl rfl) rfl ?_
          refine K_nil ?_
          refine Q_then ?_
          refine K_if rfl (fun h32 => ?_) (fun h32 => ?_)
          ·
            have hk' : k < a.rules.length := by omega
            obtain ⟨ub, uo, ucp2, xa, xcp, hue, hrc, hsr, hsym, hto, hal⟩ := (ha.mono hV).rule hk'
            cases hue
            have hre : ruleErr a a.rules[k] ≠ 0 → auErr a = ruleErr a a.rules[k] := fun h => by rw [hbase, rulesErr_take hno hk' h, if_pos h]
            refine K_skip ?_
            refine Q_then ?_
            refine K_seq ?_
            refine K_block ?_
            refine K_seq ?_
            refine K_region ?_
            refine KV (R_fieldAddr 2 fd42_2 rfl) rfl ?_
            refine KV (R_loadO ty40 0 rfl rfl rfl rfl (fun _ => rfl) rfl) rfl ?_
            refine KV (R_move rfl) rfl ?_
            refine KV (R_indexN sl40 ty100 rfl rfl (by omega)) rfl ?_
            refine KV (R_loadH ty100 rfl (hrc) rfl (fun e => by cases e) rfl) rfl ?_
            refine KA (A_alloc z100) rfl fun b5 => ?_
            refine K_store ty100 0 rfl rfl rfl rfl rfl rfl ?_
            refine K_nil ?_
            refine Q_then ?_
            refine K_seq ?_
            refine K_seq ?_
            refine K_region ?_
            refine KV (R_fieldAddr 0 fd100_0 rfl) rfl ?_
            refine KV (R_loadO ty3 0 rfl rfl rfl rfl (fun _ => rfl) rfl) rfl ?_
            refine KV (R_cmp rfl rfl rfl) rfl ?_
            refine KV (R_move rfl) rfl ?_
            refine K_split ?_ ?_
            ·
              intro h43
              refine K_gno rfl rfl rfl rfl ?_
              refine K_gno rfl rfl rfl rfl ?_
              refine K_gno rfl rfl rfl rfl ?_
              refine K_gno rfl rfl rfl rfl ?_
              refine K_gno rfl rfl rfl rfl ?_
              refine K_gno rfl rfl rfl rfl ?_
              refine KV (R_pickT rfl rfl) rfl ?_
              refine K_nil ?_
              refine Q_then ?_
              refine K_ifT rfl ?_
              refine K_seq ?_
              refine K_region ?_
              refine KV (R_assign rfl) rfl ?_
              refine K_nil ?_
              refine Q_then ?_
              refine K_ret ?_
              refine Q_then_ret ?_
              refine Q_block_ret ?_
              refine Q_then_ret ?_
              refine Q_then_ret ?_
              refine Q_block_ret ?_
              refine Q_then_ret ?_
              refine results_gen (rs := [.tmp 2]) (vs := [_]) rfl ⟨rfl, trivial⟩ ?_
              have e : ruleErr a a.rules[k] = 6 := by
                simp only [ruleErr]
                rw [if_pos (by omega)]
              rw [hre (by rw [e]; decide), e]
              rfl
            ·
              intro h43
              refine K_gyes rfl rfl ?_
              refine KV (R_fieldAddr 0 fd100_0 rfl) rfl ?_
              refine K_gyes rfl rfl ?_
              refine KV (R_loadO ty3 0 rfl rfl rfl rfl (fun _ => rfl) rfl) rfl ?_
              refine K_gyes rfl rfl ?_
              refine KV (R_fieldAddr 0 fd42_0 rfl) rfl ?_
              refine K_gyes rfl rfl ?_
              refine KV (R_loadO ty25 1 rfl rfl rfl rfl (fun _ => rfl) rfl) rfl ?_
              refine K_gyes rfl rfl ?_
              refine KV (R_len sl25 rfl) rfl ?_
              refine K_gyes rfl rfl ?_
              refine KV (R_cmp rfl rfl rfl) rfl ?_
              refine KV (R_pickF rfl rfl) rfl ?_
              refine K_nil ?_
              refine Q_then ?_
              refine K_if rfl (fun h50 => ?_) (fun h50 => ?_)
              ·
                refine K_seq ?_
                refine K_region ?_
                refine KV (R_assign rfl) rfl ?_
                refine K_nil ?_
                refine Q_then ?_
                refine K_ret ?_
                refine Q_then_ret ?_
                refine Q_block_ret ?_
                refine Q_then_ret ?_
                refine Q_then_ret ?_
                refine Q_block_ret ?_
                refine Q_then_ret ?_
                refine results_gen (rs := [.tmp 2]) (vs := [_]) rfl ⟨rfl, trivial⟩ ?_
                have e : ruleErr a a.rules[k] = 6 := by
                  simp only [ruleErr]
                  rw [if_pos (by omega)]
                rw [hre (by rw [e]; decide), e]
                rfl
              ·
                have hs2 : a.rules[k].sym.toNat < a.ranks.length := by omega
                obtain ⟨rb, ro, hre2, hrk⟩ := (ha.mono hV).r.get hs2
                cases hre2
                have hgd : a.ranks.getD a.rules[k].sym.toNat 0 = a.ranks[a.rules[k].sym.toNat] := by simp [List.getD, hs2]
                refine K_skip ?_
                refine Q_then ?_
                refine K_seq ?_
                refine K_seq ?_
                refine K_regionD (fin := false) (R := [0, 1, 2, 3, 4, 5, 6, 7, 8, 9]) (by kernel_rfl) mixed (.cons_cons _ (.cons_cons _ (List.nil_sublist _))) ?_
                refine D_val rfl rfl rfl (R_fieldAddr 1 fd100_1 rfl) ?_
                refine D_val rfl rfl rfl (R_loadO ty25 0 rfl rfl rfl rfl (fun _ => rfl) rfl) ?_
                refine D_val rfl rfl rfl (R_len sl25 rfl) ?_
                refine D_val rfl rfl rfl (R_fieldAddr 0 fd42_0 rfl) ?_
                refine D_val rfl rfl rfl (R_loadO ty25 1 rfl rfl rfl rfl (fun _ => rfl) rfl) ?_
                refine D_val rfl rfl rfl (R_fieldAddr 0 fd100_0 rfl) ?_
                refine D_val rfl rfl rfl (R_loadO ty3 0 rfl rfl rfl rfl (fun _ => rfl) rfl) ?_
                refine D_val rfl rfl rfl (R_index sl25 ty3 rfl rfl ⟨by omega, by omega⟩) ?_
                refine D_val rfl rfl rfl (R_loadH ty3 rfl (hrk) rfl (fun _ => rfl) rfl) ?_
                refine D_val rfl rfl rfl (R_cmp rfl rfl rfl) ?_
                refine D_done ?_
                refine Q_then ?_
                refine K_if rfl (fun h60 => ?_) (fun h60 => ?_)
                ·
                  refine K_seq ?_
                  refine K_region ?_
                  refine KV (R_assign rfl) rfl ?_
                  refine K_nil ?_
                  refine Q_then ?_
                  refine K_ret ?_
                  refine Q_then_ret ?_
                  refine Q_block_ret ?_
                  refine Q_then_ret ?_
                  refine Q_then_ret ?_
                  refine Q_block_ret ?_
                  refine Q_then_ret ?_
                  refine results_gen (rs := [.tmp 2]) (vs := [_]) rfl ⟨rfl, trivial⟩ ?_
                  have e : ruleErr a a.rules[k] = 3 := by
                    simp only [ruleErr]
                    rw [if_neg (by omega), hgd, if_pos h60]
                  rw [hre (by rw [e]; decide), e]
                  rfl
                ·
                  refine K_skip ?_
                  refine Q_then ?_
                  refine K_seq ?_
                  refine K_seq ?_
                  refine K_region ?_
                  refine KV (R_assign rfl) rfl ?_
                  refine K_nil ?_
                  refine Q_then ?_
                  refine K_block ?_
                  refine K_loopD (G := Nat × View) [2, 6, 61, 62, 63, 64, 65, 66, 67, 68, 69, 70, 71, 72, 73, 74, 75] (fun g => [(6, .int .i64 (g.1 : Int))]) (fun hl g => hl) (fun g => g.2) (fun g => (g.1 ≤ a.rules[k].args.length) ∧ (VLe V g.2) ∧ (∀ i (h : i < a.rules[k].args.length), i < g.1 → badQ a.states a.rules[k].args[i] = false)) (fun g => a.rules[k].args.length - g.1) (0, V) ⟨Nat.zero_le _, VLe.refl _, fun j _ h => by simp at h⟩ ⟨rfl, trivial⟩ (by simp only [args0, Nat.reduceAdd, del, memN, beqN, Nat.reduceBEq, cond_true, cond_false]; rfl) rfl rfl ?_
                  rintro ⟨j, U⟩ ⟨hj, hU, hyes⟩
                  dsimp only at hj hU hyes
                  dsimp only [List.set, List.cons_append, List.nil_append]
                  refine K_seq ?_
                  refine K_seq ?_
                  refine K_region ?_
                  refine KV (R_move rfl) rfl ?_
                  refine KV (R_fieldAddr 1 fd100_1 rfl) rfl ?_
                  refine KV (R_loadO ty25 0 rfl rfl rfl rfl (fun _ => rfl) rfl) rfl ?_
                  refine KV (R_len sl25 rfl) rfl ?_
                  refine KV (R_cmp rfl rfl rfl) rfl ?_
                  refine K_nil ?_
                  refine Q_then ?_
                  refine K_if rfl (fun h65 => ?_) (fun h65 => ?_)
                  ·
                    have hj' : j < a.rules[k].args.length := by omega
                    obtain ⟨tb, to_, hte, hta⟩ := (hsr.mono hU).get hj'
                    cases hte
                    refine K_skip ?_
                    refine Q_then ?_
                    refine K_seq ?_
                    refine K_block ?_
                    refine K_seq ?_
                    refine K_regionD (fin := false) (R := [0, 1, 2, 3, 4, 5, 6, 7]) (by kernel_rfl) mixed (.cons_cons _ (.cons_cons _ (List.nil_sublist _))) ?_
                    refine D_val rfl rfl rfl (R_loadO ty42 1 rfl rfl rfl rfl (fun e => by cases e) rfl) ?_
                    refine D_val rfl rfl rfl (R_fieldAddr 1 fd100_1 rfl) ?_
                    refine D_val rfl rfl rfl (R_loadO ty25 0 rfl rfl rfl rfl (fun _ => rfl) rfl) ?_
                    refine D_val rfl rfl rfl (R_move rfl) ?_
                    refine D_val rfl rfl rfl (R_indexN sl25 ty3 rfl rfl (by omega)) ?_
                    refine D_val rfl rfl rfl (R_loadH ty3 rfl (hta) rfl (fun _ => rfl) rfl) ?_
                    refine D_call rfl rfl c55 rfl ⟨⟨0, rfl⟩, ⟨1, rfl⟩, trivial⟩ (there_spec _ _ _ a.states a.rules[k].args[j] U) ?_
                    rintro _ U1 hU1 rfl
                    refine D_val rfl rfl rfl (R_not rfl) ?_
                    refine D_done ?_
                    refine Q_then ?_
                    refine K_ifB rfl (fun h75 => ?_) (fun h75 => ?_)
                    ·
                      have h75' : badQ a.states a.rules[k].args[j] = true := by simpa using h75
                      refine K_seq ?_
                      refine K_region ?_
                      refine KV (R_assign rfl) rfl ?_
                      refine K_nil ?_
                      refine Q_then ?_
                      refine K_ret ?_
                      refine Q_block_ret ?_
                      refine Q_then_ret ?_
                      refine Q_then_ret ?_
                      refine Q_block_ret ?_
                      refine Q_then_ret ?_
                      refine Q_block_ret ?_
                      refine Q_then_ret ?_
                      refine Q_then_ret ?_
                      refine Q_block_ret ?_
                      refine Q_then_ret ?_
                      refine results_gen (rs := [.tmp 2]) (vs := [_]) rfl ⟨rfl, trivial⟩ ?_
                      have hany : a.rules[k].args.any (badQ a.states) = true := List.any_eq_true.2 ⟨_, List.getElem_mem hj', h75'⟩
                      have e : ruleErr a a.rules[k] = 2 := by
                        simp only [ruleErr]
                        rw [if_neg (by omega), hgd, if_neg h60, hany]; rfl
                      rw [hre (by rw [e]; decide), e]
                      rfl
                    ·
                      have h75' : badQ a.states a.rules[k].args[j] = false := by simpa using h75
                      have hyes2 : ∀ i (h : i < a.rules[k].args.length), i < j + 1 → badQ a.states a.rules[k].args[i] = false := by
                        intro i h hi
                        by_cases e : i = j
                        · subst e; exact h75'
                        · exact hyes i h (by omega)
                      refine K_skip ?_
                      refine Q_block ?_
                      refine Q_then ?_
                      refine K_region ?_
                      refine KV (R_move rfl) rfl ?_
                      refine KV (R_add rfl rfl (by omega)) rfl ?_
                      refine KV (R_assign rfl) rfl ?_
                      refine K_nil ?_
                      refine Q_nextD (j + 1, U1) ⟨hj', hU.trans hU1, hyes2⟩ (by (try dsimp only); omega) ⟨rfl, trivial⟩ rfl rfl rfl
                  ·
                    have hj' : j = a.rules[k].args.length := by omega
                    have hann : a.rules[k].args.any (badQ a.states) = false := by
                      rw [List.any_eq_false]
                      intro x hx
                      obtain ⟨i, hi, rfl⟩ := List.getElem_of_mem hx
                      simp [hyes i hi (by omega)]
                    refine K_exit ?_
                    refine Q_then_exit ?_
                    refine Q_then_exit ?_
                    refine Q_block_exit ?_
                    refine Q_then ?_
                    refine K_seq ?_
                    refine K_region ?_
                    refine KV (R_loadO ty42 1 rfl rfl rfl rfl (fun e => by cases e) rfl) rfl ?_
                    refine KV (R_fieldAddr 2 fd100_2 rfl) rfl ?_
                    refine KV (R_loadO ty3 0 rfl rfl rfl rfl (fun _ => rfl) rfl) rfl ?_
                    refine K_call c55 rfl rfl (there_spec _ _ _ a.states a.rules[k].to U) ?_
                    rintro _ U1 hU1 rfl
                    refine KV (R_not rfl) rfl ?_
                    refine K_nil ?_
                    refine Q_then ?_
                    refine K_ifB rfl (fun h80 => ?_) (fun h80 => ?_)
                    ·
                      have h80' : badQ a.states a.rules[k].to = true := by simpa using h80
                      refine K_seq ?_
                      refine K_region ?_
                      refine KV (R_assign rfl) rfl ?_
                      refine K_nil ?_
                      refine Q_then ?_
                      refine K_ret ?_
                      refine Q_block_ret ?_
                      refine Q_then_ret ?_
                      refine Q_then_ret ?_
                      refine Q_block_ret ?_
                      refine Q_then_ret ?_
                      refine results_gen (rs := [.tmp 2]) (vs := [_]) rfl ⟨rfl, trivial⟩ ?_
                      have e : ruleErr a a.rules[k] = 2 := by
                        simp only [ruleErr]
                        rw [if_neg (by omega), hgd, if_neg h60, hann, h80']; rfl
                      rw [hre (by rw [e]; decide), e]
                      rfl
                    ·
                      have h80' : badQ a.states a.rules[k].to = false := by simpa using h80
                      have hno2 : ∀ j (hj : j < a.rules.length), j < k + 1 → ruleErr a a.rules[j] = 0 := by
                        intro j2 hj2 hjk
                        by_cases e : j2 = k
                        · subst e
                          simp only [ruleErr]
                          rw [if_neg (by omega), hgd, if_neg h60, hann, h80']
                          simp
                        · exact hno j2 hj2 (by omega)
                      refine K_skip ?_
                      refine Q_block ?_
                      refine Q_then ?_
                      refine K_region ?_
                      refine KV (R_move rfl) rfl ?_
                      refine KV (R_add rfl rfl (by omega)) rfl ?_
                      refine KV (R_assign rfl) rfl ?_
                      refine K_nil ?_
                      refine KQ_sel [1] rfl ?_
                      refine Q_nextD (k + 1, U1) ⟨hk', hV.trans (hU.trans hU1), hno2⟩ (by (try dsimp only); omega) ⟨rfl, trivial⟩ rfl rfl rfl
          ·
            have hk' : k = a.rules.length := by omega
            subst hk'
            have hrz : rulesErr a a.rules = 0 := rulesErr_zero fun j hj => hno j hj hj
            rw [hrz, if_neg (by decide)] at hbase
            refine K_exit ?_
            refine Q_then_exit ?_
            refine Q_then_exit ?_
            refine Q_block_exit ?_
            refine Q_then ?_
            refine K_seq ?_
            refine K_seq ?_
            refine K_region ?_
            refine KV (R_assign rfl) rfl ?_
            refine K_nil ?_
            refine Q_then ?_
            refine K_block ?_
            refine K_loopD (G := Nat × View) [2, 7, 81, 82, 83, 84, 85, 86, 87, 88, 89, 90, 91, 92, 93, 94, 95] (fun g => [(7, .int .i64 (g.1 : Int))]) (fun hl g => hl) (fun g => g.2) (fun g => (g.1 ≤ a.final.length) ∧ (VLe H g.2) ∧ (∀ j (h : j < a.final.length), j < g.1 → badQ a.states a.final[j] = false)) (fun g => a.final.length - g.1) (0, V) ⟨Nat.zero_le _, hV, fun j _ h => by simp at h⟩ ⟨rfl, trivial⟩ (by simp only [args0, Nat.reduceAdd, del, memN, beqN, Nat.reduceBEq, cond_true, cond_false]; rfl) rfl rfl ?_
            rintro ⟨i, V⟩ ⟨hi, hV, hfi⟩
            dsimp only at hi hV hfi
            dsimp only [List.set, List.cons_append, List.nil_append]
            refine K_seq ?_
            refine K_seq ?_
            refine K_region ?_
            refine KV (R_move rfl) rfl ?_
            refine KV (R_fieldAddr 3 fd42_3 rfl) rfl ?_
            refine KV (R_loadO ty25 0 rfl rfl rfl rfl (fun _ => rfl) rfl) rfl ?_
            refine KV (R_len sl25 rfl) rfl ?_
            refine KV (R_cmp rfl rfl rfl) rfl ?_
            refine K_nil ?_
            refine Q_then ?_
            refine K_if rfl (fun h85 => ?_) (fun h85 => ?_)
            ·
              have hi' : i < a.final.length := by omega
              obtain ⟨tb, to_, hte, hta⟩ := (ha.mono hV).f.get hi'
              cases hte
              refine K_skip ?_
              refine Q_then ?_
              refine K_seq ?_
              refine K_block ?_
              refine K_seq ?_
              refine K_regionD (fin := false) (R := [0, 1, 2, 3, 4, 5, 6, 7]) (by kernel_rfl) mixed (.cons_cons _ (List.nil_sublist _)) ?_
              refine D_val rfl rfl rfl (R_loadO ty42 0 rfl rfl rfl rfl (fun e => by cases e) rfl) ?_
              refine D_val rfl rfl rfl (R_fieldAddr 3 fd42_3 rfl) ?_
              refine D_val rfl rfl rfl (R_loadO ty25 0 rfl rfl rfl rfl (fun _ => rfl) rfl) ?_
              refine D_val rfl rfl rfl (R_move rfl) ?_
              refine D_val rfl rfl rfl (R_indexN sl25 ty3 rfl rfl (by omega)) ?_
              refine D_val rfl rfl rfl (R_loadH ty3 rfl (hta) rfl (fun _ => rfl) rfl) ?_
              refine D_call rfl rfl c55 rfl ⟨⟨0, rfl⟩, trivial⟩ (there_spec _ _ _ a.states a.final[i] V) ?_
              rintro _ U1 hU1 rfl
              refine D_val rfl rfl rfl (R_not rfl) ?_
              refine D_done ?_
              refine Q_then ?_
              refine K_ifB rfl (fun h95 => ?_) (fun h95 => ?_)
              ·
                have h95' : badQ a.states a.final[i] = true := by simpa using h95
                refine K_seq ?_
                refine K_region ?_
                refine KV (R_assign rfl) rfl ?_
                refine K_nil ?_
                refine Q_then ?_
                refine K_ret ?_
                refine Q_block_ret ?_
                refine Q_then_ret ?_
                refine Q_then_ret ?_
                refine Q_block_ret ?_
                refine Q_then_ret ?_
                refine results_gen (rs := [.tmp 2]) (vs := [_]) rfl ⟨rfl, trivial⟩ ?_
                have hany : a.final.any (badQ a.states) = true := List.any_eq_true.2 ⟨_, List.getElem_mem hi', h95'⟩
                rw [hbase, if_pos hany]
                rfl
              ·
                have h95' : badQ a.states a.final[i] = false := by simpa using h95
                have hfi2 : ∀ j (h : j < a.final.length), j < i + 1 → badQ a.states a.final[j] = false := by
                  intro j h hj
                  by_cases e : j = i
                  · subst e; exact h95'
                  · exact hfi j h (by omega)
                refine K_skip ?_
                refine Q_block ?_
                refine Q_then ?_
                refine K_region ?_
                refine KV (R_move rfl) rfl ?_
                refine KV (R_add rfl rfl (by omega)) rfl ?_
                refine KV (R_assign rfl) rfl ?_
                refine K_nil ?_
                refine Q_nextD (i + 1, U1) ⟨hi', hV.trans hU1, hfi2⟩ (by (try dsimp only); omega) ⟨rfl, trivial⟩ rfl rfl rfl
            ·
              have hi' : i = a.final.length := by omega
              refine K_exit ?_
              refine Q_then_exit ?_
              refine Q_then_exit ?_
              refine Q_block_exit ?_
              refine Q_then ?_
              refine K_seq ?_
              refine K_region ?_
              refine KV (R_assign rfl) rfl ?_
              refine K_nil ?_
              refine Q_then ?_
              refine K_ret ?_
              refine results_gen (rs := [.tmp 2]) (vs := [_]) rfl ⟨rfl, trivial⟩ ?_
              have hany : a.final.any (badQ a.states) = false := by
                rw [List.any_eq_false]
                intro x hx
                obtain ⟨j, hj, rfl⟩ := List.getElem_of_mem hx
                simp [hfi j hj (by omega)]
              rw [hbase, hany]
              rfl
end Go.Proofs.X

namespace Go.Proofs.X
open Go Pal Go.Proofs
attribute [local irreducible] Pal.KO Pal.KC Pal.KQ Pal.KD
theorem ty63 : Ty Tryd.prog T63 true 3 := .of (by kernel_rfl)
theorem fd54_0 : fldOk Tryd.prog T54 0 0 = true := by kernel_rfl
theorem z63 : zeroOk Tryd.prog T63 (.agg #[.slice none 0 0, .slice none 0 0, .slice none 0 0]) := .of (by kernel_rfl)
theorem pl63 : placesOk Tryd.prog T63 [(0, 1), (1, 1), (2, 1)] := ⟨_, Tryd.underlying63, by kernel_rfl⟩
theorem c51 : callable Tryd.prog F51 = true := by kernel_rfl
theorem c52 : callable Tryd.prog F52 = true := by kernel_rfl
theorem c53 : callable Tryd.prog F53 = true := by kernel_rfl
theorem c54 : callable Tryd.prog F54 = true := by kernel_rfl
theorem few_spec (a : Au) (vr vu vf : Value) (H : View) (ha : RepAu H a vr vu vf) : Sat Tryd.prog F15 #[.agg #[vr, .int .i64 a.states, vu, vf]] H (fun r _ => r = .bool (decide (a.ranks.length ≤ 8 ∧ a.states ≤ 6 ∧ a.rules.length ≤ 14 ∧ a.final.length ≤ 12))) := by
  obtain ⟨ra, rcp, rfl⟩ := ha.r.shape
  obtain ⟨fa, fcp, rfl⟩ := ha.f.shape
  obtain ⟨ua, ucp, rfl⟩ := ha.ushape
  refine enterO (n := 24) (args := [.agg #[.slice ra a.ranks.length rcp, .int .i64 a.states, .slice ua a.rules.length ucp, .slice fa a.final.length fcp]]) Tryd.func15 rfl rfl rfl fun w0 => ?_
  refine K_seq ?_
  refine K_region ?_
  refine KA (A_box rfl) rfl fun b1 => ?_
  refine KV (R_assign rfl) rfl ?_
  refine K_nil ?_
  refine Q_then ?_
  refine K_seq ?_
  refine K_region ?_
  refine KV (R_fieldAddr 0 fd42_0 rfl) rfl ?_
  refine KV (R_loadO ty25 0 rfl rfl rfl rfl (fun _ => rfl) rfl) rfl ?_
  refine KV (R_len sl25 rfl) rfl ?_
  refine KV (R_cmp rfl rfl rfl) rfl ?_
  refine KV (R_move rfl) rfl ?_
  refine K_split ?_ ?_
  ·
    intro h7
    refine K_gyes rfl rfl ?_
    refine KV (R_fieldAddr 1 fd42_1 rfl) rfl ?_
    refine K_gyes rfl rfl ?_
    refine KV (R_loadO ty3 0 rfl rfl rfl rfl (fun _ => rfl) rfl) rfl ?_
    refine K_gyes rfl rfl ?_
    refine KV (R_cmp rfl rfl rfl) rfl ?_
    refine KV (R_pickT rfl rfl) rfl ?_
    refine KV (R_move rfl) rfl ?_
    refine K_split ?_ ?_
    ·
      intro h12
      refine K_gyes rfl rfl ?_
      refine KV (R_fieldAddr 2 fd42_2 rfl) rfl ?_
      refine K_gyes rfl rfl ?_
      refine KV (R_loadO ty40 0 rfl rfl rfl rfl (fun _ => rfl) rfl) rfl ?_
      refine K_gyes rfl rfl ?_
      refine KV (R_len sl40 rfl) rfl ?_
      refine K_gyes rfl rfl ?_
      refine KV (R_cmp rfl rfl rfl) rfl ?_
      refine KV (R_pickT rfl rfl) rfl ?_
      refine KV (R_move rfl) rfl ?_
      refine K_split ?_ ?_
      ·
        intro h18
        refine K_gyes rfl rfl ?_
        refine KV (R_fieldAddr 3 fd42_3 rfl) rfl ?_
        refine K_gyes rfl rfl ?_
        refine KV (R_loadO ty25 0 rfl rfl rfl rfl (fun _ => rfl) rfl) rfl ?_
        refine K_gyes rfl rfl ?_
        refine KV (R_len sl25 rfl) rfl ?_
        refine K_gyes rfl rfl ?_
        refine KV (R_cmp rfl rfl rfl) rfl ?_
        refine KV (R_pickT rfl rfl) rfl ?_
        refine KV (R_assign rfl) rfl ?_
        refine K_nil ?_
        refine Q_then ?_
        refine K_ret ?_
        refine results_gen (rs := [.tmp 2]) (vs := [_]) rfl ⟨rfl, trivial⟩ ?_
        refine congrArg Value.bool ?_
        first | (simp only [decide_eq_decide]; omega) | (symm; simp only [decide_eq_false_iff_not]; omega)
      ·
        intro h18
        refine K_gno rfl rfl rfl rfl ?_
        refine K_gno rfl rfl rfl rfl ?_
        refine K_gno rfl rfl rfl rfl ?_
        refine K_gno rfl rfl rfl rfl ?_
        refine KV (R_pickF rfl rfl) rfl ?_
        refine KV (R_assign rfl) rfl ?_
        refine K_nil ?_
        refine Q_then ?_
        refine K_ret ?_
        refine results_gen (rs := [.tmp 2]) (vs := [_]) rfl ⟨rfl, trivial⟩ ?_
        refine congrArg Value.bool ?_
        first | (simp only [decide_eq_decide]; omega) | (symm; simp only [decide_eq_false_iff_not]; omega)
    ·
      intro h12
      refine K_gno rfl rfl rfl rfl ?_
      refine K_gno rfl rfl rfl rfl ?_
      refine K_gno rfl rfl rfl rfl ?_
      refine K_gno rfl rfl rfl rfl ?_
      refine KV (R_pickF rfl rfl) rfl ?_
      refine KV (R_move rfl) rfl ?_
      refine K_gno rfl rfl rfl rfl ?_
      refine K_gno rfl rfl rfl rfl ?_
      refine K_gno rfl rfl rfl rfl ?_
      refine K_gno rfl rfl rfl rfl ?_
      refine KV (R_pickF rfl rfl) rfl ?_
      refine KV (R_assign rfl) rfl ?_
      refine K_nil ?_
      refine Q_then ?_
      refine K_ret ?_
      refine results_gen (rs := [.tmp 2]) (vs := [_]) rfl ⟨rfl, trivial⟩ ?_
      refine congrArg Value.bool ?_
      first | (simp only [decide_eq_decide]; omega) | (symm; simp only [decide_eq_false_iff_not]; omega)
  ·
    intro h7
    refine K_gno rfl rfl rfl rfl ?_
    refine K_gno rfl rfl rfl rfl ?_
    refine K_gno rfl rfl rfl rfl ?_
    refine KV (R_pickF rfl rfl) rfl ?_
    refine KV (R_move rfl) rfl ?_
    refine K_gno rfl rfl rfl rfl ?_
    refine K_gno rfl rfl rfl rfl ?_
    refine K_gno rfl rfl rfl rfl ?_
    refine K_gno rfl rfl rfl rfl ?_
    refine KV (R_pickF rfl rfl) rfl ?_
    refine KV (R_move rfl) rfl ?_
    refine K_gno rfl rfl rfl rfl ?_
    refine K_gno rfl rfl rfl rfl ?_
    refine K_gno rfl rfl rfl rfl ?_
    refine K_gno rfl rfl rfl rfl ?_
    refine KV (R_pickF rfl rfl) rfl ?_
    refine KV (R_assign rfl) rfl ?_
    refine K_nil ?_
    refine Q_then ?_
    refine K_ret ?_
    refine results_gen (rs := [.tmp 2]) (vs := [_]) rfl ⟨rfl, trivial⟩ ?_
    refine congrArg Value.bool ?_
    first | (simp only [decide_eq_decide]; omega) | (symm; simp only [decide_eq_false_iff_not]; omega)

theorem l33to_spec (d : Dt) (v1 v2 v3 : Value) (H : View) (hd : RepDt H d v1 v2 v3) : Sat Tryd.prog F24 #[.agg #[v1, v2, v3]] H (fun r _ => r = .agg #[v1, v2, v3]) := by
  obtain ⟨ua1, uc1x, rfl⟩ := hd.r.shape
  obtain ⟨ua2, uc2x, rfl⟩ := hd.a.shape
  obtain ⟨ua3, uc3x, rfl⟩ := hd.t.shape
  refine enterO (n := 10) (args := [.agg #[.slice ua1 d.ranks.length uc1x, .slice ua2 d.acc.length uc2x, .slice ua3 d.to.length uc3x]]) Tryd.func24 rfl rfl rfl fun w0 => ?_
  refine K_seq ?_
  refine K_region ?_
  refine KA (A_box rfl) rfl fun b1 => ?_
  refine KA (A_alloc z63) rfl fun b2 => ?_
  refine K_nil ?_
  refine Q_then ?_
  refine K_seq ?_
  refine K_region ?_
  refine KV (R_fieldAddr 0 fd54_0 rfl) rfl ?_
  refine KV (R_loadO ty47 1 rfl rfl rfl rfl (fun _ => rfl) rfl) rfl ?_
  refine KV (R_fieldAddr 1 fd54_1 rfl) rfl ?_
  refine KV (R_loadO ty52 1 rfl rfl rfl rfl (fun _ => rfl) rfl) rfl ?_
  refine KV (R_fieldAddr 2 fd54_2 rfl) rfl ?_
  refine KV (R_loadO ty44 1 rfl rfl rfl rfl (fun _ => rfl) rfl) rfl ?_
  refine KV (R_build z63 pl63 rfl rfl) rfl ?_
  refine K_store ty63 0 rfl rfl rfl rfl rfl rfl ?_
  refine K_nil ?_
  refine Q_then ?_
  refine K_ret ?_
  refine results_gen (rs := [.cell 2 63]) (vs := [_]) rfl ⟨⟨_, _, _, _, _, _, 0, rfl, rfl, ty63, (fun e => by cases e), rfl, rfl⟩, trivial⟩ ?_
  rfl

theorem eqa_spec (xs ys : List Int) (v w : Value) (H : View) (hv : SI H v xs) (hw : SI H w ys) (hl : xs.length ≤ 1099511627776) (_hl2 : ys.length ≤ 1099511627776) : Sat Tryd.prog F51 #[v, w] H (fun r _ => r = .bool (decide (xs = ys))) := by
  obtain ⟨a, cp, rfl⟩ := hv.shape
  obtain ⟨b, cq, rfl⟩ := hw.shape
  refine enterO (n := 26) (args := [.slice a xs.length cp, .slice b ys.length cq]) Tryd.func51 rfl rfl rfl fun w0 => ?_
  refine K_seq ?_
  refine K_region ?_
  refine KV (R_assign rfl) rfl ?_
  refine K_nil ?_
  refine Q_then ?_
  refine K_seq ?_
  refine K_seq ?_
  refine K_region ?_
  refine KV (R_move rfl) rfl ?_
  refine KV (R_len sl47 rfl) rfl ?_
  refine KV (R_move rfl) rfl ?_
  refine KV (R_len sl47 rfl) rfl ?_
  refine KV (R_cmp rfl rfl rfl) rfl ?_
  refine K_nil ?_
  refine Q_then ?_
  refine K_if rfl (fun h10 => ?_) (fun h10 => ?_)
  ·
    refine K_seq ?_
    refine K_region ?_
    refine KV (R_assign rfl) rfl ?_
    refine K_nil ?_
    refine Q_then ?_
    refine K_ret ?_
    refine Q_then_ret ?_
    refine results_gen (rs := [.tmp 4]) (vs := [_]) rfl ⟨rfl, trivial⟩ ?_
    refine congrArg Value.bool (Eq.symm ?_)
    simp only [decide_eq_false_iff_not]
    intro e; subst e; exact absurd rfl h10
  ·
    refine K_skip ?_
    refine Q_then ?_
    refine K_seq ?_
    refine K_seq ?_
    refine K_region ?_
    refine KV (R_move rfl) rfl ?_
    refine KV (R_len sl47 rfl) rfl ?_
    refine KV (R_move rfl) rfl ?_
    refine K_nil ?_
    refine Q_then ?_
    refine K_block ?_
    refine K_loopD (G := Nat) [4, 5, 13, 14, 15, 16, 17, 18, 19, 20, 21, 22, 23, 24, 25] (fun g => [(13, .int .i64 (g : Int))]) (fun hl g => hl) (fun g => H) (fun g => (g ≤ xs.length) ∧ (∀ j (h : j < xs.length) (h2 : j < ys.length), j < g → xs[j] = ys[j])) (fun g => xs.length - g) 0 ⟨Nat.zero_le _, fun j _ _ h => by simp at h⟩ ⟨rfl, trivial⟩ (by simp only [args0, Nat.reduceAdd, del, memN, beqN, Nat.reduceBEq, cond_true, cond_false]; rfl) rfl rfl ?_
    rintro k ⟨hk, hyes⟩
    try dsimp only at hk
    try dsimp only at hyes
    dsimp only [List.set, List.cons_append, List.nil_append]
    refine K_seq ?_
    refine K_region ?_
    refine KV (R_cmp rfl rfl rfl) rfl ?_
    refine K_nil ?_
    refine Q_then ?_
    refine K_seq ?_
    refine K_if rfl (fun h14 => ?_) (fun h14 => ?_)
    ·
      have hk' : k < xs.length := by omega
      have hk2 : k < ys.length := by omega
      obtain ⟨tb, to_, rfl, hta⟩ := hv.get hk'
      obtain ⟨tb2, to2, rfl, htb⟩ := hw.get hk2
      refine K_skip ?_
      refine Q_then ?_
      refine K_seq ?_
      refine K_block ?_
      refine K_seq ?_
      refine K_region ?_
      refine KV (R_move rfl) rfl ?_
      refine KV (R_assign rfl) rfl ?_
      refine K_nil ?_
      refine Q_then ?_
      refine K_seq ?_
      refine K_regionD (fin := false) (R := [0, 1, 2, 3, 4, 5, 6, 7, 8]) (by kernel_rfl) mixed (List.nil_sublist _) ?_
      refine D_val rfl rfl rfl (R_move rfl) ?_
      refine D_val rfl rfl rfl (R_move rfl) ?_
      refine D_val rfl rfl rfl (R_indexN sl47 ty3 rfl rfl (by omega)) ?_
      refine D_val rfl rfl rfl (R_loadH ty3 rfl (hta) rfl (fun _ => rfl) rfl) ?_
      refine D_val rfl rfl rfl (R_move rfl) ?_
      refine D_val rfl rfl rfl (R_move rfl) ?_
      refine D_val rfl rfl rfl (R_indexN sl47 ty3 rfl rfl (by omega)) ?_
      refine D_val rfl rfl rfl (R_loadH ty3 rfl (htb) rfl (fun _ => rfl) rfl) ?_
      refine D_val rfl rfl rfl (R_cmp rfl rfl rfl) ?_
      refine D_done ?_
      refine Q_then ?_
      refine K_if rfl (fun h24 => ?_) (fun h24 => ?_)
      ·
        refine K_seq ?_
        refine K_region ?_
        refine KV (R_assign rfl) rfl ?_
        refine K_nil ?_
        refine Q_then ?_
        refine K_ret ?_
        refine Q_block_ret ?_
        refine Q_then_ret ?_
        refine Q_then_ret ?_
        refine Q_block_ret ?_
        refine Q_then_ret ?_
        refine results_gen (rs := [.tmp 4]) (vs := [_]) rfl ⟨rfl, trivial⟩ ?_
        refine congrArg Value.bool (Eq.symm ?_)
        simp only [decide_eq_false_iff_not]
        intro e; subst e; exact h24 rfl
      ·
        have hyes2 : ∀ j (h : j < xs.length) (h2 : j < ys.length), j < k + 1 → xs[j] = ys[j] := by
          intro j h h2 hj
          by_cases e : j = k
          · subst e; exact Decidable.not_not.1 h24
          · exact hyes j h h2 (by omega)
        refine K_skip ?_
        refine Q_block ?_
        refine Q_then ?_
        refine K_region ?_
        refine KV (R_add rfl rfl (by omega)) rfl ?_
        refine KV (R_move rfl) rfl ?_
        refine K_nil ?_
        refine Q_nextD (k + 1) ⟨hk', hyes2⟩ (by (try dsimp only); omega) ⟨rfl, trivial⟩ rfl rfl rfl
    ·
      refine K_exit ?_
      refine Q_then_exit ?_
      refine Q_then_exit ?_
      refine Q_block_exit ?_
      refine Q_then ?_
      refine K_seq ?_
      refine K_region ?_
      refine KV (R_assign rfl) rfl ?_
      refine K_nil ?_
      refine Q_then ?_
      refine K_ret ?_
      refine results_gen (rs := [.tmp 4]) (vs := [_]) rfl ⟨rfl, trivial⟩ ?_
      refine congrArg Value.bool (Eq.symm ?_)
      simp only [decide_eq_true_eq]
      exact List.ext_getElem (by omega) fun j h h2 => hyes j h h2 (by omega)

theorem eqi_spec (xs ys : List Int) (v w : Value) (H : View) (hv : SI H v xs) (hw : SI H w ys) (hl : xs.length ≤ 1099511627776) (_hl2 : ys.length ≤ 1099511627776) : Sat Tryd.prog F54 #[v, w] H (fun r _ => r = .bool (decide (xs = ys))) := by
  obtain ⟨a, cp, rfl⟩ := hv.shape
  obtain ⟨b, cq, rfl⟩ := hw.shape
  refine enterO (n := 26) (args := [.slice a xs.length cp, .slice b ys.length cq]) Tryd.func54 rfl rfl rfl fun w0 => ?_
  refine K_seq ?_
  refine K_region ?_
  refine KV (R_assign rfl) rfl ?_
  refine K_nil ?_
  refine Q_then ?_
  refine K_seq ?_
  refine K_seq ?_
  refine K_region ?_
  refine KV (R_move rfl) rfl ?_
  refine KV (R_len sl25 rfl) rfl ?_
  refine KV (R_move rfl) rfl ?_
  refine KV (R_len sl25 rfl) rfl ?_
  refine KV (R_cmp rfl rfl rfl) rfl ?_
  refine K_nil ?_
  refine Q_then ?_
  refine K_if rfl (fun h10 => ?_) (fun h10 => ?_)
  ·
    refine K_seq ?_
    refine K_region ?_
    refine KV (R_assign rfl) rfl ?_
    refine K_nil ?_
    refine Q_then ?_
    refine K_ret ?_
    refine Q_then_ret ?_
    refine results_gen (rs := [.tmp 4]) (vs := [_]) rfl ⟨rfl, trivial⟩ ?_
    refine congrArg Value.bool (Eq.symm ?_)
    simp only [decide_eq_false_iff_not]
    intro e; subst e; exact absurd rfl h10
  ·
    refine K_skip ?_
    refine Q_then ?_
    refine K_seq ?_
    refine K_seq ?_
    refine K_region ?_
    refine KV (R_move rfl) rfl ?_
    refine KV (R_len sl25 rfl) rfl ?_
    refine KV (R_move rfl) rfl ?_
    refine K_nil ?_
    refine Q_then ?_
    refine K_block ?_
    refine K_loopD (G := Nat) [4, 5, 13, 14, 15, 16, 17, 18, 19, 20, 21, 22, 23, 24, 25] (fun g => [(13, .int .i64 (g : Int))]) (fun hl g => hl) (fun g => H) (fun g => (g ≤ xs.length) ∧ (∀ j (h : j < xs.length) (h2 : j < ys.length), j < g → xs[j] = ys[j])) (fun g => xs.length - g) 0 ⟨Nat.zero_le _, fun j _ _ h => by simp at h⟩ ⟨rfl, trivial⟩ (by simp only [args0, Nat.reduceAdd, del, memN, beqN, Nat.reduceBEq, cond_true, cond_false]; rfl) rfl rfl ?_
    rintro k ⟨hk, hyes⟩
    try dsimp only at hk
    try dsimp only at hyes
    dsimp only [List.set, List.cons_append, List.nil_append]
    refine K_seq ?_
    refine K_region ?_
    refine KV (R_cmp rfl rfl rfl) rfl ?_
    refine K_nil ?_
    refine Q_then ?_
    refine K_seq ?_
    refine K_if rfl (fun h14 => ?_) (fun h14 => ?_)
    ·
      have hk' : k < xs.length := by omega
      have hk2 : k < ys.length := by omega
      obtain ⟨tb, to_, rfl, hta⟩ := hv.get hk'
      obtain ⟨tb2, to2, rfl, htb⟩ := hw.get hk2
      refine K_skip ?_
      refine Q_then ?_
      refine K_seq ?_
      refine K_block ?_
      refine K_seq ?_
      refine K_region ?_
      refine KV (R_move rfl) rfl ?_
      refine KV (R_assign rfl) rfl ?_
      refine K_nil ?_
      refine Q_then ?_
      refine K_seq ?_
      refine K_regionD (fin := false) (R := [0, 1, 2, 3, 4, 5, 6, 7, 8]) (by kernel_rfl) mixed (List.nil_sublist _) ?_
      refine D_val rfl rfl rfl (R_move rfl) ?_
      refine D_val rfl rfl rfl (R_move rfl) ?_
      refine D_val rfl rfl rfl (R_indexN sl25 ty3 rfl rfl (by omega)) ?_
      refine D_val rfl rfl rfl (R_loadH ty3 rfl (hta) rfl (fun _ => rfl) rfl) ?_
      refine D_val rfl rfl rfl (R_move rfl) ?_
      refine D_val rfl rfl rfl (R_move rfl) ?_
      refine D_val rfl rfl rfl (R_indexN sl25 ty3 rfl rfl (by omega)) ?_
      refine D_val rfl rfl rfl (R_loadH ty3 rfl (htb) rfl (fun _ => rfl) rfl) ?_
      refine D_val rfl rfl rfl (R_cmp rfl rfl rfl) ?_
      refine D_done ?_
      refine Q_then ?_
      refine K_if rfl (fun h24 => ?_) (fun h24 => ?_)
      ·
        refine K_seq ?_
        refine K_region ?_
        refine KV (R_assign rfl) rfl ?_
        refine K_nil ?_
        refine Q_then ?_
        refine K_ret ?_
        refine Q_block_ret ?_
        refine Q_then_ret ?_
        refine Q_then_ret ?_
        refine Q_block_ret ?_
        refine Q_then_ret ?_
        refine results_gen (rs := [.tmp 4]) (vs := [_]) rfl ⟨rfl, trivial⟩ ?_
        refine congrArg Value.bool (Eq.symm ?_)
        simp only [decide_eq_false_iff_not]
        intro e; subst e; exact h24 rfl
      ·
        have hyes2 : ∀ j (h : j < xs.length) (h2 : j < ys.length), j < k + 1 → xs[j] = ys[j] := by
          intro j h h2 hj
          by_cases e : j = k
          · subst e; exact Decidable.not_not.1 h24
          · exact hyes j h h2 (by omega)
        refine K_skip ?_
        refine Q_block ?_
        refine Q_then ?_
        refine K_region ?_
        refine KV (R_add rfl rfl (by omega)) rfl ?_
        refine KV (R_move rfl) rfl ?_
        refine K_nil ?_
        refine Q_nextD (k + 1) ⟨hk', hyes2⟩ (by (try dsimp only); omega) ⟨rfl, trivial⟩ rfl rfl rfl
    ·
      refine K_exit ?_
      refine Q_then_exit ?_
      refine Q_then_exit ?_
      refine Q_block_exit ?_
      refine Q_then ?_
      refine K_seq ?_
      refine K_region ?_
      refine KV (R_assign rfl) rfl ?_
      refine K_nil ?_
      refine Q_then ?_
      refine K_ret ?_
      refine results_gen (rs := [.tmp 4]) (vs := [_]) rfl ⟨rfl, trivial⟩ ?_
      refine congrArg Value.bool (Eq.symm ?_)
      simp only [decide_eq_true_eq]
      exact List.ext_getElem (by omega) fun j h h2 => hyes j h h2 (by omega)

theorem eqb_spec (xs ys : List Bool) (v w : Value) (H : View) (hv : SB H v xs) (hw : SB H w ys) (hl : xs.length ≤ 1099511627776) (_hl2 : ys.length ≤ 1099511627776) : Sat Tryd.prog F52 #[v, w] H (fun r _ => r = .bool (decide (xs = ys))) := by
  obtain ⟨a, cp, rfl⟩ := hv.shape
  obtain ⟨b, cq, rfl⟩ := hw.shape
  refine enterO (n := 26) (args := [.slice a xs.length cp, .slice b ys.length cq]) Tryd.func52 rfl rfl rfl fun w0 => ?_
  refine K_seq ?_
  refine K_region ?_
  refine KV (R_assign rfl) rfl ?_
  refine K_nil ?_
  refine Q_then ?_
  refine K_seq ?_
  refine K_seq ?_
  refine K_region ?_
  refine KV (R_move rfl) rfl ?_
  refine KV (R_len sl52 rfl) rfl ?_
  refine KV (R_move rfl) rfl ?_
  refine KV (R_len sl52 rfl) rfl ?_
  refine KV (R_cmp rfl rfl rfl) rfl ?_
  refine K_nil ?_
  refine Q_then ?_
  refine K_if rfl (fun h10 => ?_) (fun h10 => ?_)
  ·
    refine K_seq ?_
    refine K_region ?_
    refine KV (R_assign rfl) rfl ?_
    refine K_nil ?_
    refine Q_then ?_
    refine K_ret ?_
    refine Q_then_ret ?_
    refine results_gen (rs := [.tmp 4]) (vs := [_]) rfl ⟨rfl, trivial⟩ ?_
    refine congrArg Value.bool (Eq.symm ?_)
    simp only [decide_eq_false_iff_not]
    intro e; subst e; exact absurd rfl h10
  ·
    refine K_skip ?_
    refine Q_then ?_
    refine K_seq ?_
    refine K_seq ?_
    refine K_region ?_
    refine KV (R_move rfl) rfl ?_
    refine KV (R_len sl52 rfl) rfl ?_
    refine KV (R_move rfl) rfl ?_
    refine K_nil ?_
    refine Q_then ?_
    refine K_block ?_
    refine K_loopD (G := Nat) [4, 5, 13, 14, 15, 16, 17, 18, 19, 20, 21, 22, 23, 24, 25] (fun g => [(13, .int .i64 (g : Int))]) (fun hl g => hl) (fun g => H) (fun g => (g ≤ xs.length) ∧ (∀ j (h : j < xs.length) (h2 : j < ys.length), j < g → xs[j] = ys[j])) (fun g => xs.length - g) 0 ⟨Nat.zero_le _, fun j _ _ h => by simp at h⟩ ⟨rfl, trivial⟩ (by simp only [args0, Nat.reduceAdd, del, memN, beqN, Nat.reduceBEq, cond_true, cond_false]; rfl) rfl rfl ?_
    rintro k ⟨hk, hyes⟩
    try dsimp only at hk
    try dsimp only at hyes
    dsimp only [List.set, List.cons_append, List.nil_append]
    refine K_seq ?_
    refine K_region ?_
    refine KV (R_cmp rfl rfl rfl) rfl ?_
    refine K_nil ?_
    refine Q_then ?_
    refine K_seq ?_
    refine K_if rfl (fun h14 => ?_) (fun h14 => ?_)
    ·
      have hk' : k < xs.length := by omega
      have hk2 : k < ys.length := by omega
      obtain ⟨tb, to_, rfl, hta⟩ := hv.get hk'
      obtain ⟨tb2, to2, rfl, htb⟩ := hw.get hk2
      refine K_skip ?_
      refine Q_then ?_
      refine K_seq ?_
      refine K_block ?_
      refine K_seq ?_
      refine K_region ?_
      refine KV (R_move rfl) rfl ?_
      refine KV (R_assign rfl) rfl ?_
      refine K_nil ?_
      refine Q_then ?_
      refine K_seq ?_
      refine K_regionD (fin := false) (R := [0, 1, 2, 3, 4, 5, 6, 7, 8]) (by kernel_rfl) mixed (List.nil_sublist _) ?_
      refine D_val rfl rfl rfl (R_move rfl) ?_
      refine D_val rfl rfl rfl (R_move rfl) ?_
      refine D_val rfl rfl rfl (R_indexN sl52 ty4 rfl rfl (by omega)) ?_
      refine D_val rfl rfl rfl (R_loadH ty4 rfl (hta) rfl (fun _ => rfl) rfl) ?_
      refine D_val rfl rfl rfl (R_move rfl) ?_
      refine D_val rfl rfl rfl (R_move rfl) ?_
      refine D_val rfl rfl rfl (R_indexN sl52 ty4 rfl rfl (by omega)) ?_
      refine D_val rfl rfl rfl (R_loadH ty4 rfl (htb) rfl (fun _ => rfl) rfl) ?_
      refine D_val rfl rfl rfl (R_boolNe (by kernel_rfl) rfl rfl) ?_
      refine D_done ?_
      refine Q_then ?_
      refine K_ifB rfl (fun h24 => ?_) (fun h24 => ?_)
      ·
        refine K_seq ?_
        refine K_region ?_
        refine KV (R_assign rfl) rfl ?_
        refine K_nil ?_
        refine Q_then ?_
        refine K_ret ?_
        refine Q_block_ret ?_
        refine Q_then_ret ?_
        refine Q_then_ret ?_
        refine Q_block_ret ?_
        refine Q_then_ret ?_
        refine results_gen (rs := [.tmp 4]) (vs := [_]) rfl ⟨rfl, trivial⟩ ?_
        refine congrArg Value.bool (Eq.symm ?_)
        simp only [decide_eq_false_iff_not]
        intro e; subst e; revert h24; cases xs[k] <;> simp
      ·
        have hyes2 : ∀ j (h : j < xs.length) (h2 : j < ys.length), j < k + 1 → xs[j] = ys[j] := by
          intro j h h2 hj
          by_cases e : j = k
          · subst e; revert h24; cases xs[j] <;> cases ys[j] <;> simp
          · exact hyes j h h2 (by omega)
        refine K_skip ?_
        refine Q_block ?_
        refine Q_then ?_
        refine K_region ?_
        refine KV (R_add rfl rfl (by omega)) rfl ?_
        refine KV (R_move rfl) rfl ?_
        refine K_nil ?_
        refine Q_nextD (k + 1) ⟨hk', hyes2⟩ (by (try dsimp only); omega) ⟨rfl, trivial⟩ rfl rfl rfl
    ·
      refine K_exit ?_
      refine Q_then_exit ?_
      refine Q_then_exit ?_
      refine Q_block_exit ?_
      refine Q_then ?_
      refine K_seq ?_
      refine K_region ?_
      refine KV (R_assign rfl) rfl ?_
      refine K_nil ?_
      refine Q_then ?_
      refine K_ret ?_
      refine results_gen (rs := [.tmp 4]) (vs := [_]) rfl ⟨rfl, trivial⟩ ?_
      refine congrArg Value.bool (Eq.symm ?_)
      simp only [decide_eq_true_eq]
      exact List.ext_getElem (by omega) fun j h h2 => hyes j h h2 (by omega)

theorem eqf_spec (xs ys : List (List Int)) (v w : Value) (H : View) (hv : SSI H v xs) (hw : SSI H w ys) (hl : xs.length ≤ 1099511627776) (_hl2 : ys.length ≤ 1099511627776) (hi : ∀ x ∈ xs, x.length ≤ 1099511627776) (hi2 : ∀ x ∈ ys, x.length ≤ 1099511627776) :
    Sat Tryd.prog F53 #[v, w, .func (.func F54) #[] #[]] H (fun r _ => r = .bool (decide (xs = ys))) := by
  obtain ⟨a, cp, rfl⟩ := hv.shape
  obtain ⟨b, cq, rfl⟩ := hw.shape
  refine enterO (n := 32) (args := [.slice a xs.length cp, .slice b ys.length cq, .func (.func F54) #[] #[]]) Tryd.func53 rfl rfl rfl fun w0 => ?_
  refine K_seq ?_
  refine K_region ?_
  refine KV (R_assign rfl) rfl ?_
  refine K_nil ?_
  refine Q_then ?_
  refine K_seq ?_
  refine K_seq ?_
  refine K_region ?_
  refine KV (R_move rfl) rfl ?_
  refine KV (R_len sl44 rfl) rfl ?_
  refine KV (R_move rfl) rfl ?_
  refine KV (R_len sl44 rfl) rfl ?_
  refine KV (R_cmp rfl rfl rfl) rfl ?_
  refine K_nil ?_
  refine Q_then ?_
  refine K_if rfl (fun h14 => ?_) (fun h14 => ?_)
  ·
    refine K_seq ?_
    refine K_region ?_
    refine KV (R_assign rfl) rfl ?_
    refine K_nil ?_
    refine Q_then ?_
    refine K_ret ?_
    refine Q_then_ret ?_
    refine results_gen (rs := [.tmp 6]) (vs := [_]) rfl ⟨rfl, trivial⟩ ?_
    refine congrArg Value.bool (Eq.symm ?_)
    simp only [decide_eq_false_iff_not]
    intro e; subst e; exact absurd rfl h14
  ·
    refine K_skip ?_
    refine Q_then ?_
    refine K_seq ?_
    refine K_seq ?_
    refine K_region ?_
    refine KV (R_move rfl) rfl ?_
    refine KV (R_len sl44 rfl) rfl ?_
    refine KV (R_move rfl) rfl ?_
    refine K_nil ?_
    refine Q_then ?_
    refine K_block ?_
    refine K_loopD (G := Nat × View) [6, 7, 8, 9, 17, 18, 19, 20, 21, 22, 23, 24, 25, 26, 27, 28, 29, 30, 31] (fun g => [(17, .int .i64 (g.1 : Int))]) (fun hl g => hl) (fun g => g.2) (fun g => (g.1 ≤ xs.length) ∧ (VLe H g.2) ∧ (∀ j (h : j < xs.length) (h2 : j < ys.length), j < g.1 → xs[j] = ys[j])) (fun g => xs.length - g.1) (0, H) ⟨Nat.zero_le _, VLe.refl _, fun j _ _ h => by simp at h⟩ ⟨rfl, trivial⟩ (by simp only [args0, Nat.reduceAdd, del, memN, beqN, Nat.reduceBEq, cond_true, cond_false]; rfl) rfl rfl ?_
    rintro ⟨k, V⟩ ⟨hk, hV, hyes⟩
    dsimp only at hk hV hyes
    dsimp only [List.set, List.cons_append, List.nil_append]
    refine K_seq ?_
    refine K_region ?_
    refine KV (R_cmp rfl rfl rfl) rfl ?_
    refine K_nil ?_
    refine Q_then ?_
    refine K_seq ?_
    refine K_if rfl (fun h18 => ?_) (fun h18 => ?_)
    ·
      have hk' : k < xs.length := by omega
      have hk2 : k < ys.length := by omega
      obtain ⟨tb, to_, ea, ecp, rfl, hta, hes1⟩ := (hv.mono hV).get hk'
      obtain ⟨tb2, to2, ea2, ecp2, rfl, htb, hes2⟩ := (hw.mono hV).get hk2
      refine K_skip ?_
      refine Q_then ?_
      refine K_seq ?_
      refine K_block ?_
      refine K_seq ?_
      refine K_region ?_
      refine KV (R_move rfl) rfl ?_
      refine KV (R_indexN sl44 ty25 rfl rfl (by omega)) rfl ?_
      refine KV (R_loadH ty25 rfl (hta) rfl (fun _ => rfl) rfl) rfl ?_
      refine KV (R_assign rfl) rfl ?_
      refine KV (R_assign rfl) rfl ?_
      refine K_nil ?_
      refine Q_then ?_
      refine K_seq ?_
      refine K_region ?_
      refine KV (R_move rfl) rfl ?_
      refine KV (R_move rfl) rfl ?_
      refine KV (R_indexN sl44 ty25 rfl rfl (by omega)) rfl ?_
      refine KV (R_loadH ty25 rfl (htb) rfl (fun _ => rfl) rfl) rfl ?_
      refine KV (R_assign rfl) rfl ?_
      refine K_nil ?_
      refine Q_then ?_
      refine K_seq ?_
      refine K_region ?_
      refine KV (R_move rfl) rfl ?_
      refine KV (R_move rfl) rfl ?_
      refine KV (R_move rfl) rfl ?_
      refine K_callO (first := []) [] [] (List.Perm.refl _) c54 rfl rfl rfl (eqi_spec xs[k] ys[k] _ _ V hes1 hes2 (hi _ (List.getElem_mem hk')) (hi2 _ (List.getElem_mem hk2))) ?_
      rintro _ V1 q hle rfl
      refine KO_own [] (List.nil_sublist _) ?_
      refine KV (R_notP rfl) rfl ?_
      refine K_nil ?_
      refine Q_then ?_
      refine K_if rfl (fun h30 => ?_) (fun h30 => ?_)
      ·
        refine K_seq ?_
        refine K_region ?_
        refine KV (R_assign rfl) rfl ?_
        refine K_nil ?_
        refine Q_then ?_
        refine K_ret ?_
        refine Q_block_ret ?_
        refine Q_then_ret ?_
        refine Q_then_ret ?_
        refine Q_block_ret ?_
        refine Q_then_ret ?_
        refine results_gen (rs := [.tmp 6]) (vs := [_]) rfl ⟨rfl, trivial⟩ ?_
        refine congrArg Value.bool (Eq.symm ?_)
        simp only [decide_eq_false_iff_not]
        intro e; subst e; exact h30 rfl
      ·
        have hyes2 : ∀ j (h : j < xs.length) (h2 : j < ys.length), j < k + 1 → xs[j] = ys[j] := by
          intro j h h2 hj
          by_cases e : j = k
          · subst e; exact Decidable.not_not.1 h30
          · exact hyes j h h2 (by omega)
        refine K_skip ?_
        refine Q_block ?_
        refine Q_then ?_
        refine K_region ?_
        refine KV (R_add rfl rfl (by omega)) rfl ?_
        refine KV (R_move rfl) rfl ?_
        refine K_nil ?_
        refine Q_nextD (k + 1, V1) ⟨hk', hV.trans hle, hyes2⟩ (by (try dsimp only); omega) ⟨rfl, trivial⟩ rfl rfl rfl
    ·
      refine K_exit ?_
      refine Q_then_exit ?_
      refine Q_then_exit ?_
      refine Q_block_exit ?_
      refine Q_then ?_
      refine K_seq ?_
      refine K_region ?_
      refine KV (R_assign rfl) rfl ?_
      refine K_nil ?_
      refine Q_then ?_
      refine K_ret ?_
      refine results_gen (rs := [.tmp 6]) (vs := [_]) rfl ⟨rfl, trivial⟩ ?_
      refine congrArg Value.bool (Eq.symm ?_)
      simp only [decide_eq_true_eq]
      exact List.ext_getElem (by omega) fun j h h2 => hyes j h h2 (by omega)

theorem dteq_spec (d e : Dt) (v1 v2 v3 w1 w2 w3 : Value) (H : View) (hd : RepDt H d v1 v2 v3) (he : RepDt H e w1 w2 w3) (hb : d.ranks.length ≤ 1099511627776 ∧ d.acc.length ≤ 1099511627776 ∧ d.to.length ≤ 1099511627776 ∧ ∀ x ∈ d.to, x.length ≤ 1099511627776)
    (hb2 : e.ranks.length ≤ 1099511627776 ∧ e.acc.length ≤ 1099511627776 ∧ e.to.length ≤ 1099511627776 ∧ ∀ x ∈ e.to, x.length ≤ 1099511627776) : Sat Tryd.prog F19 #[.agg #[v1, v2, v3], .agg #[w1, w2, w3]] H (fun r _ => r = .bool (decide (d.ranks = e.ranks ∧ d.acc = e.acc ∧ d.to = e.to))) := by
  obtain ⟨ua1, uc1x, rfl⟩ := hd.r.shape
  obtain ⟨ua2, uc2x, rfl⟩ := hd.a.shape
  obtain ⟨ua3, uc3x, rfl⟩ := hd.t.shape
  obtain ⟨wa1, wc1x, rfl⟩ := he.r.shape
  obtain ⟨wa2, wc2x, rfl⟩ := he.a.shape
  obtain ⟨wa3, wc3x, rfl⟩ := he.t.shape
  refine enterO (n := 24) (args := [.agg #[.slice ua1 d.ranks.length uc1x, .slice ua2 d.acc.length uc2x, .slice ua3 d.to.length uc3x], .agg #[.slice wa1 e.ranks.length wc1x, .slice wa2 e.acc.length wc2x, .slice wa3 e.to.length wc3x]]) Tryd.func19 rfl rfl rfl fun w0 => ?_
  refine K_seq ?_
  refine K_region ?_
  refine KA (A_box rfl) rfl fun b2 => ?_
  refine KA (A_box rfl) rfl fun b3 => ?_
  refine KV (R_assign rfl) rfl ?_
  refine K_nil ?_
  refine Q_then ?_
  refine K_seq ?_
  refine K_region ?_
  refine KV (R_fieldAddr 0 fd54_0 rfl) rfl ?_
  refine KV (R_loadO ty47 1 rfl rfl rfl rfl (fun _ => rfl) rfl) rfl ?_
  refine KV (R_fieldAddr 0 fd54_0 rfl) rfl ?_
  refine KV (R_loadO ty47 0 rfl rfl rfl rfl (fun _ => rfl) rfl) rfl ?_
  refine K_call c51 rfl rfl (eqa_spec d.ranks e.ranks _ _ H hd.r he.r hb.1 hb2.1) ?_
  rintro _ V1 hle1 rfl
  refine KV (R_move rfl) rfl ?_
  refine K_split ?_ ?_
  ·
    intro h10
    refine K_gyes rfl rfl ?_
    refine KV (R_fieldAddr 1 fd54_1 rfl) rfl ?_
    refine K_gyes rfl rfl ?_
    refine KV (R_loadO ty52 1 rfl rfl rfl rfl (fun _ => rfl) rfl) rfl ?_
    refine K_gyes rfl rfl ?_
    refine KV (R_fieldAddr 1 fd54_1 rfl) rfl ?_
    refine K_gyes rfl rfl ?_
    refine KV (R_loadO ty52 0 rfl rfl rfl rfl (fun _ => rfl) rfl) rfl ?_
    refine K_gyes rfl rfl ?_
    refine K_call c52 rfl rfl (eqb_spec d.acc e.acc _ _ V1 (SB.mono hd.a hle1) (SB.mono he.a hle1) hb.2.1 hb2.2.1) ?_
    rintro _ V2 hle2 rfl
    refine KV (R_pickT rfl rfl) rfl ?_
    refine KV (R_move rfl) rfl ?_
    refine K_split ?_ ?_
    ·
      intro h17
      refine K_gyes rfl rfl ?_
      refine KV (R_fieldAddr 2 fd54_2 rfl) rfl ?_
      refine K_gyes rfl rfl ?_
      refine KV (R_loadO ty44 1 rfl rfl rfl rfl (fun _ => rfl) rfl) rfl ?_
      refine K_gyes rfl rfl ?_
      refine KV (R_fieldAddr 2 fd54_2 rfl) rfl ?_
      refine K_gyes rfl rfl ?_
      refine KV (R_loadO ty44 0 rfl rfl rfl rfl (fun _ => rfl) rfl) rfl ?_
      refine K_gyes rfl rfl ?_
      refine K_call c53 rfl rfl (eqf_spec d.to e.to _ _ V2 (hd.t.mono (hle1.trans hle2)) (he.t.mono (hle1.trans hle2)) hb.2.2.1 hb2.2.2.1 hb.2.2.2 hb2.2.2.2) ?_
      rintro _ V3 hle3 rfl
      refine KV (R_pickT rfl rfl) rfl ?_
      refine KV (R_assign rfl) rfl ?_
      refine K_nil ?_
      refine Q_then ?_
      refine K_ret ?_
      refine results_gen (rs := [.tmp 4]) (vs := [_]) rfl ⟨rfl, trivial⟩ ?_
      refine congrArg Value.bool ?_
      simp_all
    ·
      intro h17
      refine K_gno rfl rfl rfl rfl ?_
      refine K_gno rfl rfl rfl rfl ?_
      refine K_gno rfl rfl rfl rfl ?_
      refine K_gno rfl rfl rfl rfl ?_
      refine K_gno rfl rfl rfl rfl ?_
      refine KV (R_pickF rfl rfl) rfl ?_
      refine KV (R_assign rfl) rfl ?_
      refine K_nil ?_
      refine Q_then ?_
      refine K_ret ?_
      refine results_gen (rs := [.tmp 4]) (vs := [_]) rfl ⟨rfl, trivial⟩ ?_
      refine congrArg Value.bool ?_
      simp_all
  ·
    intro h10
    refine K_gno rfl rfl rfl rfl ?_
    refine K_gno rfl rfl rfl rfl ?_
    refine K_gno rfl rfl rfl rfl ?_
    refine K_gno rfl rfl rfl rfl ?_
    refine K_gno rfl rfl rfl rfl ?_
    refine KV (R_pickF rfl rfl) rfl ?_
    refine KV (R_move rfl) rfl ?_
    refine K_gno rfl rfl rfl rfl ?_
    refine K_gno rfl rfl rfl rfl ?_
    refine K_gno rfl rfl rfl rfl ?_
    refine K_gno rfl rfl rfl rfl ?_
    refine K_gno rfl rfl rfl rfl ?_
    refine KV (R_pickF rfl rfl) rfl ?_
    refine KV (R_assign rfl) rfl ?_
    refine K_nil ?_
    refine Q_then ?_
    refine K_ret ?_
    refine results_gen (rs := [.tmp 4]) (vs := [_]) rfl ⟨rfl, trivial⟩ ?_
    refine congrArg Value.bool ?_
    simp_all
end Go.Proofs.X

namespace Go.Proofs.X
open Go Pal Go.Proofs
attribute [local irreducible] Pal.KO Pal.KC Pal.KQ Pal.KD
theorem fd63_0 : fldOk Tryd.prog T63 0 0 = true := by kernel_rfl
theorem fd63_1 : fldOk Tryd.prog T63 1 1 = true := by kernel_rfl
theorem fd63_2 : fldOk Tryd.prog T63 2 2 = true := by kernel_rfl
theorem c61 : callable Tryd.prog F61 = true := by kernel_rfl
theorem to_spec (a : Au) (vr vu vf : Value) (H : View) (ha : RepAu H a vr vu vf) : Sat Tryd.prog F17 #[.agg #[vr, .int .i64 a.states, vu, vf]] H (fun r H' => ∃ v1 v2 v3, r = .agg #[v1, .int .i64 a.states, v2, v3] ∧ RepAu H' a v1 v2 v3) := by
  obtain ⟨ra, rcp, rfl⟩ := ha.r.shape
  obtain ⟨fa, fcp, rfl⟩ := ha.f.shape
  obtain ⟨ua, ucp, rfl⟩ := ha.ushape
  have hrl := ha.rl
  have hul := ha.ul
  have hfl := ha.fl
  refine enterO (n := 50) (args := [.agg #[.slice ra a.ranks.length rcp, .int .i64 a.states, .slice ua a.rules.length ucp, .slice fa a.final.length fcp]]) Tryd.func17 rfl rfl rfl fun w0 => ?_
  refine K_seq ?_
  refine K_region ?_
  refine KA (A_box rfl) rfl fun b1 => ?_
  refine KA (A_alloc z50) rfl fun b2 => ?_
  refine K_nil ?_
  refine Q_then ?_
  refine K_seq ?_
  refine K_regionD (fin := true) (R := [1, 2, 4, 5, 7, 8, 0, 3, 6, 9, 10, 11, 12]) (by kernel_rfl) mixed (.cons _ (.cons_cons _ (List.nil_sublist _))) ?_
  refine D_val rfl rfl rfl (R_fieldAddr 0 fd42_0 rfl) ?_
  refine D_val rfl rfl rfl (R_loadO ty25 0 rfl rfl rfl rfl (fun _ => rfl) rfl) ?_
  refine D_val rfl rfl rfl (R_fieldAddr 1 fd42_1 rfl) ?_
  refine D_val rfl rfl rfl (R_loadO ty3 0 rfl rfl rfl rfl (fun _ => rfl) rfl) ?_
  refine D_val rfl rfl rfl (R_fieldAddr 3 fd42_3 rfl) ?_
  refine D_val rfl rfl rfl (R_loadO ty25 0 rfl rfl rfl rfl (fun _ => rfl) rfl) ?_
  refine D_alloc rfl rfl rfl (A_buildSlice (vs := []) sl47 ty3 z3 rfl rfl (by simp) (by simp) rfl (by decide)) fun b5 => ?_
  refine D_append0 0 ap47 sl25 rfl rfl rfl rfl rfl ⟨⟨1, rfl⟩, trivial⟩ ha.r.1 (by simp [ints]) (ints_one _) ⟨by omega, by omega⟩ fun a8 k8 => ?_

  refine D_alloc rfl rfl rfl (A_buildSlice (vs := []) sl25 ty3 z3 rfl rfl (by simp) (by simp) rfl (by decide)) fun b11 => ?_
  refine D_append0 0 ap25 sl25 rfl rfl rfl rfl rfl ⟨⟨2, rfl⟩, trivial⟩ ha.f.1 (by simp [ints]) (ints_one _) ⟨by omega, by omega⟩ fun a14 k14 => ?_

  refine D_val rfl rfl rfl (R_build z50 pl50 rfl rfl) ?_
  refine D_alloc rfl rfl rfl (A_alloc z50) fun b3 => ?_
  refine D_lastStore ty50 0 rfl rfl rfl rfl rfl rfl rfl rfl ?_
  refine KQ_front 2 rfl ?_
  refine KQ_pubrow rfl fun V0 hv0 hrow8 => ?_
  refine KQ_front 1 rfl ?_
  refine KQ_pubrow rfl fun V1 hv1 hrow14 => ?_
  refine Q_then ?_
  refine K_seq ?_
  refine K_seq ?_
  refine K_region ?_
  refine KV (R_assign rfl) rfl ?_
  refine K_nil ?_
  refine Q_then ?_
  refine K_block ?_
  refine K_nilrow T85 3 ?_
  refine K_loopD (G := Nat × View × Value × List Value) [4, 16, 17, 18, 19, 20, 21, 22, 23, 24, 25, 26, 27, 28, 29, 30, 31, 32, 33, 34, 35, 36, 37, 38, 39, 40, 41, 42, 43, 44, 45, 46, 47, 48] (fun g => [(4, .int .i64 (g.1 : Int))]) (fun hl g => ((hl.set 0 (row g.2.2.1 T85 3 g.1 g.2.2.2)).set 1 (blk b3 (.cells #[.slice a8 a.ranks.length k8, .int .i64 a.states, g.2.2.1, .slice a14 a.final.length k14] T50 (0, 0))))) (fun g => g.2.1) (fun g => (g.1 ≤ a.rules.length) ∧ (VLe V1 g.2.1) ∧ (RepL (RepR g.2.1) 3 (a.rules.take g.1) g.2.2.2) ∧ (∃ ad cp, g.2.2.1 = .slice ad g.1 cp)) (fun g => a.rules.length - g.1) (0, V1, nilS, []) ⟨Nat.zero_le _, VLe.refl _, .nil, none, 0, rfl⟩ ⟨rfl, trivial⟩ (by simp only [args0, Nat.reduceAdd, del, memN, beqN, Nat.reduceBEq, cond_true, cond_false]; rfl) rfl rfl ?_
  rintro ⟨k, V, w, cells⟩ ⟨hk, hV, hC, hw⟩
  dsimp only at hk hV hC hw
  dsimp only [List.set, List.cons_append, List.nil_append]
  obtain ⟨wa, wcp, rfl⟩ := hw
  refine K_seq ?_
  refine K_seq ?_
  refine K_region ?_
  refine KV (R_move rfl) rfl ?_
  refine KV (R_fieldAddr 2 fd42_2 rfl) rfl ?_
  refine KV (R_loadO ty40 3 rfl rfl rfl rfl (fun _ => rfl) rfl) rfl ?_
  refine KV (R_len sl40 rfl) rfl ?_
  refine KV (R_cmp rfl rfl rfl) rfl ?_
  refine K_nil ?_
  refine Q_then ?_
  refine K_if rfl (fun h20 => ?_) (fun h20 => ?_)
  ·
    have hk' : k < a.rules.length := by omega
    obtain ⟨ub, uo, ucp2, xa, xcp, hue, hrc, hsr, hsym, hto, hxl⟩ := (ha.mono (hv0.trans (hv1.trans hV))).rule hk'
    cases hue
    refine K_skip ?_
    refine Q_then ?_
    refine K_seq ?_
    refine K_block ?_
    refine K_regionD (fin := true) (R := [0, 1, 2, 3, 4, 5, 6, 7, 9, 10, 11, 12, 13, 14, 16, 17, 18, 19, 20, 21, 8, 15, 22, 23, 24, 25, 26]) (by kernel_rfl) mixed (.cons _ (.cons_cons _ (.cons _ (.cons_cons _ (List.nil_sublist _))))) ?_
    refine D_val rfl rfl rfl (R_fieldAddr 2 fd50_2 rfl) ?_
    refine D_val rfl rfl rfl (R_loadO ty48 0 rfl rfl rfl rfl (fun _ => rfl) rfl) ?_
    refine D_val rfl rfl rfl (R_fieldAddr 2 fd42_2 rfl) ?_
    refine D_val rfl rfl rfl (R_loadO ty40 1 rfl rfl rfl rfl (fun _ => rfl) rfl) ?_
    refine D_val rfl rfl rfl (R_move rfl) ?_
    refine D_val rfl rfl rfl (R_indexN sl40 ty100 rfl rfl (by omega)) ?_
    refine D_val rfl rfl rfl (R_fieldAddr 0 fd100_0 rfl) ?_
    refine D_val rfl rfl rfl (R_loadH ty3 rfl (At.one (j := 0) hrc rfl) rfl (fun _ => rfl) rfl) ?_
    refine D_val rfl rfl rfl (R_fieldAddr 2 fd42_2 rfl) ?_
    refine D_val rfl rfl rfl (R_loadO ty40 1 rfl rfl rfl rfl (fun _ => rfl) rfl) ?_
    refine D_val rfl rfl rfl (R_move rfl) ?_
    refine D_val rfl rfl rfl (R_indexN sl40 ty100 rfl rfl (by omega)) ?_
    refine D_val rfl rfl rfl (R_fieldAddr 1 fd100_1 rfl) ?_
    refine D_val rfl rfl rfl (R_loadH ty25 rfl (At.one (j := 1) hrc rfl) rfl (fun _ => rfl) rfl) ?_
    refine D_val rfl rfl rfl (R_fieldAddr 2 fd42_2 rfl) ?_
    refine D_val rfl rfl rfl (R_loadO ty40 1 rfl rfl rfl rfl (fun _ => rfl) rfl) ?_
    refine D_val rfl rfl rfl (R_move rfl) ?_
    refine D_val rfl rfl rfl (R_indexN sl40 ty100 rfl rfl (by omega)) ?_
    refine D_val rfl rfl rfl (R_fieldAddr 2 fd100_2 rfl) ?_
    refine D_val rfl rfl rfl (R_loadH ty3 rfl (At.one (j := 2) hrc rfl) rfl (fun _ => rfl) rfl) ?_
    refine D_alloc rfl rfl rfl (A_buildSlice (vs := []) sl25 ty3 z3 rfl rfl (by simp) (by simp) rfl (by decide)) fun b31 => ?_
    refine D_append0 0 ap25 sl25 rfl rfl rfl rfl rfl ⟨⟨1, rfl⟩, ⟨3, rfl⟩, trivial⟩ hsr.1 (by simp [ints]) (ints_one _) ⟨by omega, by omega⟩ fun a38 k38 => ?_

    refine D_val rfl rfl rfl (R_build z85 pl85 rfl rfl) ?_
    refine D_alloc rfl rfl rfl (A_buildSlice (vs := [.agg #[.int .i64 a.rules[k].sym, .slice a38 a.rules[k].args.length k38, .int .i64 a.rules[k].to]]) sl48 ty85 z85 rfl rfl (by simp [Value.cells]) (by simp) rfl (by decide)) fun b46 => ?_
    refine D_append1 1 ap48 rfl rfl rfl rfl rfl rfl ⟨⟨1, rfl⟩, ⟨3, rfl⟩, trivial⟩ rfl rfl ⟨by omega, by omega⟩ fun a47 k47 hn47 => ?_
    refine D_val rfl rfl rfl (R_fieldAddr 2 fd50_2 rfl) ?_
    refine D_lastStore ty48 2 rfl rfl rfl rfl rfl rfl rfl rfl ?_
    refine KQ_front 1 rfl ?_
    refine KQ_pubrow rfl fun U hU hrow38 => ?_
    refine Q_block ?_
    refine Q_then ?_
    refine K_region ?_
    refine KV (R_move rfl) rfl ?_
    refine KV (R_add rfl rfl (by omega)) rfl ?_
    refine KV (R_assign rfl) rfl ?_
    refine K_nil ?_
    refine Q_nextD (k + 1, U, .slice a47 (k + 1) k47, cells ++ [.int .i64 a.rules[k].sym, .slice a38 a.rules[k].args.length k38, .int .i64 a.rules[k].to]) ⟨hk', hV.trans hU, by rw [List.take_succ_eq_append_getElem hk']; exact (hC.imp fun x cs h => h.mono hU).snoc ⟨_, _, rfl, ⟨hrow38.sl, hsr.2⟩, hsym, hto, hxl⟩ rfl, _, _, rfl⟩ (by (try dsimp only); omega) ⟨rfl, trivial⟩ rfl rfl rfl
  ·
    have hk' : k = a.rules.length := by omega
    subst hk'
    rw [List.take_length] at hC
    refine K_exit ?_
    refine Q_then_exit ?_
    refine Q_then_exit ?_
    refine Q_block_exit ?_
    refine Q_then ?_
    refine K_seq ?_
    refine K_region ?_
    refine KV (R_loadO ty50 1 rfl rfl rfl rfl (fun e => by cases e) rfl) rfl ?_
    refine K_store ty50 2 rfl rfl rfl rfl rfl rfl ?_
    refine K_nil ?_
    refine Q_then ?_
    refine K_ret ?_
    refine KQ_pubrow rfl fun Hp hp hrow => ?_
    refine results_gen (rs := [.cell 2 50]) (vs := [_]) rfl ⟨⟨_, _, _, _, _, _, 1, rfl, rfl, ty50, (fun e => by cases e), rfl, rfl⟩, trivial⟩ ?_
    exact ⟨_, _, _, rfl, ⟨hrow8.sl.mono (hv1.trans (hV.trans hp)), ha.r.2⟩, ⟨cells, hrow.sl, hC.imp fun x cs h => h.mono hp⟩, ⟨hrow14.sl.mono (hV.trans hp), ha.f.2⟩, ha.s, hrl, hul, hfl⟩

theorem rsame_spec (d e : Dt) (v1 v2 v3 w1 w2 w3 : Value) (H : View) (hd : RepDt H d v1 v2 v3) (he : RepDt H e w1 w2 w3) (hb : d.ranks.length ≤ 1099511627776 ∧ d.acc.length ≤ 1099511627776 ∧ d.to.length ≤ 1099511627776 ∧ ∀ x ∈ d.to, x.length ≤ 1099511627776)
    (hb2 : e.ranks.length ≤ 1099511627776 ∧ e.acc.length ≤ 1099511627776 ∧ e.to.length ≤ 1099511627776 ∧ ∀ x ∈ e.to, x.length ≤ 1099511627776) : Sat Tryd.prog F23 #[.agg #[v1, v2, v3], .agg #[w1, w2, w3]] H (fun r _ => r = .bool (decide (d.ranks = e.ranks ∧ d.acc = e.acc ∧ d.to = e.to))) := by
  obtain ⟨ua1, uc1x, rfl⟩ := hd.r.shape
  obtain ⟨ua2, uc2x, rfl⟩ := hd.a.shape
  obtain ⟨ua3, uc3x, rfl⟩ := hd.t.shape
  obtain ⟨wa1, wc1x, rfl⟩ := he.r.shape
  obtain ⟨wa2, wc2x, rfl⟩ := he.a.shape
  obtain ⟨wa3, wc3x, rfl⟩ := he.t.shape
  obtain ⟨hb1, hb2', hb3, hb4⟩ := hb
  obtain ⟨hc1, hc2', hc3, hc4⟩ := hb2
  refine enterO (n := 68) (args := [.agg #[.slice ua1 d.ranks.length uc1x, .slice ua2 d.acc.length uc2x, .slice ua3 d.to.length uc3x], .agg #[.slice wa1 e.ranks.length wc1x, .slice wa2 e.acc.length wc2x, .slice wa3 e.to.length wc3x]]) Tryd.func23 rfl rfl rfl fun w0 => ?_
  refine K_seq ?_
  refine K_region ?_
  refine KA (A_box rfl) rfl fun b2 => ?_
  refine KA (A_box rfl) rfl fun b3 => ?_
  refine KV (R_assign rfl) rfl ?_
  refine K_nil ?_
  refine Q_then ?_
  refine K_seq ?_
  refine K_seq ?_
  refine K_region ?_
  refine KV (R_fieldAddr 0 fd63_0 rfl) rfl ?_
  refine KV (R_loadO ty25 1 rfl rfl rfl rfl (fun _ => rfl) rfl) rfl ?_
  refine KV (R_fieldAddr 0 fd63_0 rfl) rfl ?_
  refine KV (R_loadO ty25 0 rfl rfl rfl rfl (fun _ => rfl) rfl) rfl ?_
  refine K_call c61 rfl rfl (rranks_spec d.ranks e.ranks _ _ H hd.r he.r hb1 hc1) ?_
  rintro _ V1 hle1 rfl
  refine KV (R_notP rfl) rfl ?_
  refine KV (R_move rfl) rfl ?_
  refine K_split ?_ ?_
  ·
    intro h13
    refine K_gno rfl rfl rfl rfl ?_
    refine K_gno rfl rfl rfl rfl ?_
    refine K_gno rfl rfl rfl rfl ?_
    refine K_gno rfl rfl rfl rfl ?_
    refine K_gno rfl rfl rfl rfl ?_
    refine K_gno rfl rfl rfl rfl ?_
    refine K_gno rfl rfl rfl rfl ?_
    refine KV (R_pickT rfl rfl) rfl ?_
    refine KV (R_move rfl) rfl ?_
    refine K_gno rfl rfl rfl rfl ?_
    refine K_gno rfl rfl rfl rfl ?_
    refine K_gno rfl rfl rfl rfl ?_
    refine K_gno rfl rfl rfl rfl ?_
    refine K_gno rfl rfl rfl rfl ?_
    refine K_gno rfl rfl rfl rfl ?_
    refine K_gno rfl rfl rfl rfl ?_
    refine KV (R_pickT rfl rfl) rfl ?_
    refine K_nil ?_
    refine Q_then ?_
    refine K_ifT rfl ?_
    refine K_seq ?_
    refine K_region ?_
    refine KV (R_assign rfl) rfl ?_
    refine K_nil ?_
    refine Q_then ?_
    refine K_ret ?_
    refine Q_then_ret ?_
    refine results_gen (rs := [.tmp 4]) (vs := [_]) rfl ⟨rfl, trivial⟩ ?_
    refine congrArg Value.bool (Eq.symm ?_)
    simp only [decide_eq_false_iff_not]
    rintro ⟨e1, e2, e3⟩
    exact h13 e1
  ·
    intro h13
    refine K_gyes rfl rfl ?_
    refine KV (R_fieldAddr 1 fd63_1 rfl) rfl ?_
    refine K_gyes rfl rfl ?_
    refine KV (R_loadO ty52 1 rfl rfl rfl rfl (fun _ => rfl) rfl) rfl ?_
    refine K_gyes rfl rfl ?_
    refine KV (R_len sl52 rfl) rfl ?_
    refine K_gyes rfl rfl ?_
    refine KV (R_fieldAddr 1 fd63_1 rfl) rfl ?_
    refine K_gyes rfl rfl ?_
    refine KV (R_loadO ty52 0 rfl rfl rfl rfl (fun _ => rfl) rfl) rfl ?_
    refine K_gyes rfl rfl ?_
    refine KV (R_len sl52 rfl) rfl ?_
    refine K_gyes rfl rfl ?_
    refine KV (R_cmp rfl rfl rfl) rfl ?_
    refine KV (R_pickF rfl rfl) rfl ?_
    refine KV (R_move rfl) rfl ?_
    refine K_split ?_ ?_
    ·
      intro h22
      refine K_gno rfl rfl rfl rfl ?_
      refine K_gno rfl rfl rfl rfl ?_
      refine K_gno rfl rfl rfl rfl ?_
      refine K_gno rfl rfl rfl rfl ?_
      refine K_gno rfl rfl rfl rfl ?_
      refine K_gno rfl rfl rfl rfl ?_
      refine K_gno rfl rfl rfl rfl ?_
      refine KV (R_pickT rfl rfl) rfl ?_
      refine K_nil ?_
      refine Q_then ?_
      refine K_ifT rfl ?_
      refine K_seq ?_
      refine K_region ?_
      refine KV (R_assign rfl) rfl ?_
      refine K_nil ?_
      refine Q_then ?_
      refine K_ret ?_
      refine Q_then_ret ?_
      refine results_gen (rs := [.tmp 4]) (vs := [_]) rfl ⟨rfl, trivial⟩ ?_
      refine congrArg Value.bool (Eq.symm ?_)
      simp only [decide_eq_false_iff_not]
      rintro ⟨e1, e2, e3⟩
      rw [e2] at h22; exact absurd rfl h22
    ·
      intro h22
      refine K_gyes rfl rfl ?_
      refine KV (R_fieldAddr 2 fd63_2 rfl) rfl ?_
      refine K_gyes rfl rfl ?_
      refine KV (R_loadO ty44 1 rfl rfl rfl rfl (fun _ => rfl) rfl) rfl ?_
      refine K_gyes rfl rfl ?_
      refine KV (R_len sl44 rfl) rfl ?_
      refine K_gyes rfl rfl ?_
      refine KV (R_fieldAddr 2 fd63_2 rfl) rfl ?_
      refine K_gyes rfl rfl ?_
      refine KV (R_loadO ty44 0 rfl rfl rfl rfl (fun _ => rfl) rfl) rfl ?_
      refine K_gyes rfl rfl ?_
      refine KV (R_len sl44 rfl) rfl ?_
      refine K_gyes rfl rfl ?_
      refine KV (R_cmp rfl rfl rfl) rfl ?_
      refine KV (R_pickF rfl rfl) rfl ?_
      refine K_nil ?_
      refine Q_then ?_
      refine K_if rfl (fun h30 => ?_) (fun h30 => ?_)
      ·
        refine K_seq ?_
        refine K_region ?_
        refine KV (R_assign rfl) rfl ?_
        refine K_nil ?_
        refine Q_then ?_
        refine K_ret ?_
        refine Q_then_ret ?_
        refine results_gen (rs := [.tmp 4]) (vs := [_]) rfl ⟨rfl, trivial⟩ ?_
        refine congrArg Value.bool (Eq.symm ?_)
        simp only [decide_eq_false_iff_not]
        rintro ⟨e1, e2, e3⟩
        rw [e3] at h30; exact absurd rfl h30
      ·
        have hr : d.ranks = e.ranks := Decidable.not_not.1 h13
        have hal : d.acc.length = e.acc.length := by omega
        have htl : d.to.length = e.to.length := by omega
        refine K_skip ?_
        refine Q_then ?_
        refine K_seq ?_
        refine K_seq ?_
        refine K_region ?_
        refine KV (R_assign rfl) rfl ?_
        refine K_nil ?_
        refine Q_then ?_
        refine K_block ?_
        refine K_loopD (G := Nat × View) [4, 5, 31, 32, 33, 34, 35, 36, 37, 38, 39, 40, 41, 42, 43, 44, 45, 46, 47, 48] (fun g => [(5, .int .i64 (g.1 : Int))]) (fun hl g => hl) (fun g => g.2) (fun g => (g.1 ≤ d.acc.length) ∧ (VLe V1 g.2) ∧ (∀ j (h : j < d.acc.length) (h2 : j < e.acc.length), j < g.1 → d.acc[j] = e.acc[j])) (fun g => d.acc.length - g.1) (0, V1) ⟨Nat.zero_le _, VLe.refl _, fun j _ _ h => by simp at h⟩ ⟨rfl, trivial⟩ (by simp only [args0, Nat.reduceAdd, del, memN, beqN, Nat.reduceBEq, cond_true, cond_false]; rfl) rfl rfl ?_
        rintro ⟨k, V⟩ ⟨hk, hV, hyes⟩
        dsimp only at hk hV hyes
        dsimp only [List.set, List.cons_append, List.nil_append]
        refine K_seq ?_
        refine K_seq ?_
        refine K_region ?_
        refine KV (R_move rfl) rfl ?_
        refine KV (R_fieldAddr 1 fd63_1 rfl) rfl ?_
        refine KV (R_loadO ty52 1 rfl rfl rfl rfl (fun _ => rfl) rfl) rfl ?_
        refine KV (R_len sl52 rfl) rfl ?_
        refine KV (R_cmp rfl rfl rfl) rfl ?_
        refine K_nil ?_
        refine Q_then ?_
        refine K_if rfl (fun h35 => ?_) (fun h35 => ?_)
        ·
          have hk' : k < d.acc.length := by omega
          have hk2 : k < e.acc.length := by omega
          obtain ⟨tb, to_, hte, hta⟩ := (SB.mono hd.a (hle1.trans hV)).get hk'
          cases hte
          obtain ⟨tb2, to2, hte2, htb⟩ := (SB.mono he.a (hle1.trans hV)).get hk2
          cases hte2
          refine K_skip ?_
          refine Q_then ?_
          refine K_seq ?_
          refine K_block ?_
          refine K_seq ?_
          refine K_regionD (fin := false) (R := [0, 1, 2, 3, 4, 5, 6, 7, 8, 9, 10]) (by kernel_rfl) mixed (.cons_cons _ (.cons_cons _ (List.nil_sublist _))) ?_
          refine D_val rfl rfl rfl (R_fieldAddr 1 fd63_1 rfl) ?_
          refine D_val rfl rfl rfl (R_loadO ty52 1 rfl rfl rfl rfl (fun _ => rfl) rfl) ?_
          refine D_val rfl rfl rfl (R_move rfl) ?_
          refine D_val rfl rfl rfl (R_indexN sl52 ty4 rfl rfl (by omega)) ?_
          refine D_val rfl rfl rfl (R_loadH ty4 rfl (hta) rfl (fun _ => rfl) rfl) ?_
          refine D_val rfl rfl rfl (R_fieldAddr 1 fd63_1 rfl) ?_
          refine D_val rfl rfl rfl (R_loadO ty52 0 rfl rfl rfl rfl (fun _ => rfl) rfl) ?_
          refine D_val rfl rfl rfl (R_move rfl) ?_
          refine D_val rfl rfl rfl (R_indexN sl52 ty4 rfl rfl (by omega)) ?_
          refine D_val rfl rfl rfl (R_loadH ty4 rfl (htb) rfl (fun _ => rfl) rfl) ?_
          refine D_val rfl rfl rfl (R_boolNe (by kernel_rfl) rfl rfl) ?_
          refine D_done ?_
          refine Q_then ?_
          refine K_ifB rfl (fun h48 => ?_) (fun h48 => ?_)
          ·
            refine K_seq ?_
            refine K_region ?_
            refine KV (R_assign rfl) rfl ?_
            refine K_nil ?_
            refine Q_then ?_
            refine K_ret ?_
            refine Q_block_ret ?_
            refine Q_then_ret ?_
            refine Q_then_ret ?_
            refine Q_block_ret ?_
            refine Q_then_ret ?_
            refine results_gen (rs := [.tmp 4]) (vs := [_]) rfl ⟨rfl, trivial⟩ ?_
            refine congrArg Value.bool (Eq.symm ?_)
            simp only [decide_eq_false_iff_not]
            rintro ⟨e1, e2, e3⟩
            revert h48; simp [e2]
          ·
            have hyes2 : ∀ j (h : j < d.acc.length) (h2 : j < e.acc.length), j < k + 1 → d.acc[j] = e.acc[j] := by
              intro j h h2 hj
              by_cases ee : j = k
              · subst ee; revert h48; cases d.acc[j] <;> cases e.acc[j] <;> simp
              · exact hyes j h h2 (by omega)
            refine K_skip ?_
            refine Q_block ?_
            refine Q_then ?_
            refine K_region ?_
            refine KV (R_move rfl) rfl ?_
            refine KV (R_add rfl rfl (by omega)) rfl ?_
            refine KV (R_assign rfl) rfl ?_
            refine K_nil ?_
            refine Q_nextD (k + 1, V) ⟨hk', hV, hyes2⟩ (by (try dsimp only); omega) ⟨rfl, trivial⟩ rfl rfl rfl
        ·
          have hac : d.acc = e.acc := List.ext_getElem hal fun j h h2 => hyes j h h2 (by omega)
          refine K_exit ?_
          refine Q_then_exit ?_
          refine Q_then_exit ?_
          refine Q_block_exit ?_
          refine Q_then ?_
          refine K_seq ?_
          refine K_seq ?_
          refine K_region ?_
          refine KV (R_assign rfl) rfl ?_
          refine K_nil ?_
          refine Q_then ?_
          refine K_block ?_
          refine K_loopD (G := Nat × View) [4, 6, 49, 50, 51, 52, 53, 54, 55, 56, 57, 58, 59, 60, 61, 62, 63, 64, 65, 66, 67] (fun g => [(6, .int .i64 (g.1 : Int))]) (fun hl g => hl) (fun g => g.2) (fun g => (g.1 ≤ d.to.length) ∧ (VLe V1 g.2) ∧ (∀ j (h : j < d.to.length) (h2 : j < e.to.length), j < g.1 → d.to[j] = e.to[j])) (fun g => d.to.length - g.1) (0, V) ⟨Nat.zero_le _, hV, fun j _ _ h => by simp at h⟩ ⟨rfl, trivial⟩ (by simp only [args0, Nat.reduceAdd, del, memN, beqN, Nat.reduceBEq, cond_true, cond_false]; rfl) rfl rfl ?_
          rintro ⟨i, V⟩ ⟨hi, hV, hno⟩
          dsimp only at hi hV hno
          dsimp only [List.set, List.cons_append, List.nil_append]
          refine K_seq ?_
          refine K_seq ?_
          refine K_region ?_
          refine KV (R_move rfl) rfl ?_
          refine KV (R_fieldAddr 2 fd63_2 rfl) rfl ?_
          refine KV (R_loadO ty44 1 rfl rfl rfl rfl (fun _ => rfl) rfl) rfl ?_
          refine KV (R_len sl44 rfl) rfl ?_
          refine KV (R_cmp rfl rfl rfl) rfl ?_
          refine K_nil ?_
          refine Q_then ?_
          refine K_if rfl (fun h53 => ?_) (fun h53 => ?_)
          ·
            have hi' : i < d.to.length := by omega
            have hi2 : i < e.to.length := by omega
            obtain ⟨tb, to_, ea, ecp, hte, hta, hes1⟩ := (hd.t.mono (hle1.trans hV)).get hi'
            cases hte
            obtain ⟨tb2, to2, ea2, ecp2, hte2, htb, hes2⟩ := (he.t.mono (hle1.trans hV)).get hi2
            cases hte2
            refine K_skip ?_
            refine Q_then ?_
            refine K_seq ?_
            refine K_block ?_
            refine K_seq ?_
            refine K_regionD (fin := false) (R := [0, 1, 2, 3, 4, 5, 6, 7, 8, 9, 10, 11]) (by kernel_rfl) mixed (.cons_cons _ (.cons_cons _ (List.nil_sublist _))) ?_
            refine D_val rfl rfl rfl (R_fieldAddr 2 fd63_2 rfl) ?_
            refine D_val rfl rfl rfl (R_loadO ty44 1 rfl rfl rfl rfl (fun _ => rfl) rfl) ?_
            refine D_val rfl rfl rfl (R_move rfl) ?_
            refine D_val rfl rfl rfl (R_indexN sl44 ty25 rfl rfl (by omega)) ?_
            refine D_val rfl rfl rfl (R_loadH ty25 rfl (hta) rfl (fun _ => rfl) rfl) ?_
            refine D_val rfl rfl rfl (R_fieldAddr 2 fd63_2 rfl) ?_
            refine D_val rfl rfl rfl (R_loadO ty44 0 rfl rfl rfl rfl (fun _ => rfl) rfl) ?_
            refine D_val rfl rfl rfl (R_move rfl) ?_
            refine D_val rfl rfl rfl (R_indexN sl44 ty25 rfl rfl (by omega)) ?_
            refine D_val rfl rfl rfl (R_loadH ty25 rfl (htb) rfl (fun _ => rfl) rfl) ?_
            refine D_call rfl rfl c61 rfl ⟨⟨0, rfl⟩, ⟨1, rfl⟩, trivial⟩ (rranks_spec d.to[i] e.to[i] _ _ V hes1 hes2 (hb4 _ (List.getElem_mem hi')) (hc4 _ (List.getElem_mem hi2))) ?_
            rintro _ U hU rfl
            refine D_val rfl rfl rfl (R_notP rfl) ?_
            refine D_done ?_
            refine Q_then ?_
            refine K_if rfl (fun h67 => ?_) (fun h67 => ?_)
            ·
              refine K_seq ?_
              refine K_region ?_
              refine KV (R_assign rfl) rfl ?_
              refine K_nil ?_
              refine Q_then ?_
              refine K_ret ?_
              refine Q_block_ret ?_
              refine Q_then_ret ?_
              refine Q_then_ret ?_
              refine Q_block_ret ?_
              refine Q_then_ret ?_
              refine results_gen (rs := [.tmp 4]) (vs := [_]) rfl ⟨rfl, trivial⟩ ?_
              refine congrArg Value.bool (Eq.symm ?_)
              simp only [decide_eq_false_iff_not]
              rintro ⟨e1, e2, e3⟩
              exact h67 (by simp [e3])
            ·
              have hno2 : ∀ j (h : j < d.to.length) (h2 : j < e.to.length), j < i + 1 → d.to[j] = e.to[j] := by
                intro j h h2 hj
                by_cases ee : j = i
                · subst ee; exact Decidable.not_not.1 h67
                · exact hno j h h2 (by omega)
              refine K_skip ?_
              refine Q_block ?_
              refine Q_then ?_
              refine K_region ?_
              refine KV (R_move rfl) rfl ?_
              refine KV (R_add rfl rfl (by omega)) rfl ?_
              refine KV (R_assign rfl) rfl ?_
              refine K_nil ?_
              refine Q_nextD (i + 1, U) ⟨hi', hV.trans hU, hno2⟩ (by (try dsimp only); omega) ⟨rfl, trivial⟩ rfl rfl rfl
          ·
            have hto : d.to = e.to := List.ext_getElem htl fun j h h2 => hno j h h2 (by omega)
            refine K_exit ?_
            refine Q_then_exit ?_
            refine Q_then_exit ?_
            refine Q_block_exit ?_
            refine Q_then ?_
            refine K_seq ?_
            refine K_region ?_
            refine KV (R_assign rfl) rfl ?_
            refine K_nil ?_
            refine Q_then ?_
            refine K_ret ?_
            refine results_gen (rs := [.tmp 4]) (vs := [_]) rfl ⟨rfl, trivial⟩ ?_
            refine congrArg Value.bool (Eq.symm ?_)
            simp only [decide_eq_true_eq]
            exact ⟨hr, hac, hto⟩
end Go.Proofs.X

namespace Go.Proofs.X
open Go Pal Go.Proofs
attribute [local irreducible] Pal.KO Pal.KC Pal.KQ Pal.KD
theorem c56 : callable Tryd.prog F56 = true := by kernel_rfl
theorem c57 : callable Tryd.prog F57 = true := by kernel_rfl
theorem c58 : callable Tryd.prog F58 = true := by kernel_rfl
theorem c59 : callable Tryd.prog F59 = true := by kernel_rfl
theorem rsubs_spec (a : Au) (haok : AuOk a) (h6 : a.states ≤ 6) (vr vu vf : Value) (H : View) (ha : RepAu H a vr vu vf) : Sat Tryd.prog F21 #[.agg #[vr, .int .i64 a.states, vu, vf]] H (fun r H' => SSI H' r (refSubs a) ∧ RefOk a (refSubs a)) := by
  obtain ⟨ra, rcp, rfl⟩ := ha.r.shape
  have hrl := haok.rl
  refine enterO (n := 53) (args := [.agg #[.slice ra a.ranks.length rcp, .int .i64 a.states, vu, vf]]) Tryd.func21 rfl rfl rfl fun w0 => ?_
  refine K_seq ?_
  refine K_region ?_
  refine KA (A_box rfl) rfl fun b1 => ?_
  refine KV (R_assign rfl) rfl ?_
  refine K_nil ?_
  refine Q_then ?_
  refine K_seq ?_
  refine K_region ?_
  refine KV (R_assign rfl) rfl ?_
  refine K_nil ?_
  refine Q_then ?_
  refine K_seq ?_
  refine K_seq ?_
  refine K_region ?_
  refine KV (R_assign rfl) rfl ?_
  refine K_nil ?_
  refine Q_then ?_
  refine K_block ?_
  refine K_nilrow T25 1 ?_
  refine K_loopD (G := Nat × Int × List (List Int) × View × Value × List Value) [3, 4, 5, 6, 7, 8, 9, 10, 11, 12, 13, 14, 15, 16, 17, 18, 19, 20, 21, 22, 23, 24, 25, 26, 27, 28, 29, 30, 31, 32, 33, 34, 35, 36, 37, 38, 39, 40, 41, 42, 43, 44, 45, 46, 47, 48, 49, 50, 51] (fun g => [(4, .int .i64 g.2.1), (3, g.2.2.2.2.1)]) (fun hl g => (hl.set 0 (row g.2.2.2.2.1 T25 1 g.2.2.1.length g.2.2.2.2.2))) (fun g => g.2.2.2.1) (fun g => (VLe H g.2.2.2.1) ∧ (RepL (RSI g.2.2.2.1) 1 g.2.2.1 g.2.2.2.2.2) ∧ (subsV g.2.2.2.2.1 g.2.2.1.length) ∧ (refRounds a g.1 g.2.1 g.2.2.1 = refSubs a) ∧ (64 - g.2.1 < g.1) ∧ (RefOk a g.2.2.1)) (fun g => g.1) (130, -1, [], H, nilS, []) ⟨VLe.refl _, .nil, .inl ⟨rfl, rfl⟩, rfl, by dsimp only; decide, RefOk.nil a⟩ ⟨rfl, rfl, trivial⟩ (by simp only [args0, Nat.reduceAdd, del, memN, beqN, Nat.reduceBEq, cond_true, cond_false]; rfl) rfl rfl ?_
  rintro ⟨F, was, out, V, w, cells⟩ ⟨hV, hC, hw, hF, hfu, hok⟩
  dsimp only at hV hC hw hF hfu hok
  dsimp only [List.set, List.cons_append, List.nil_append]
  obtain ⟨wa, wcp, rfl⟩ := hw.shape
  have hol := hok.len h6
  refine K_seq ?_
  refine K_seq ?_
  refine K_region ?_
  refine KV (R_move rfl) rfl ?_
  refine KV (R_move rfl) rfl ?_
  refine KV (R_len sl44 rfl) rfl ?_
  refine KV (R_cmp rfl rfl rfl) rfl ?_
  refine K_nil ?_
  refine Q_then ?_
  refine K_if rfl (fun h12 => ?_) (fun h12 => ?_)
  ·
    refine K_skip ?_
    refine Q_then ?_
    refine K_block ?_
    refine K_seq ?_
    refine K_region ?_
    refine KV (R_move rfl) rfl ?_
    refine KV (R_len sl44 rfl) rfl ?_
    refine KV (R_assign rfl) rfl ?_
    refine K_nil ?_
    refine Q_then ?_
    refine K_seq ?_
    refine K_region ?_
    refine KV (R_assign rfl) rfl ?_
    refine K_nil ?_
    refine Q_then ?_
    refine K_block ?_
    refine K_loopD (G := Nat × List (List Int) × View × Value × List Value) [3, 5, 6, 7, 8, 15, 16, 17, 18, 19, 20, 21, 22, 23, 24, 25, 26, 27, 28, 29, 30, 31, 32, 33, 34, 35, 36, 37, 38, 39, 40, 41, 42, 43, 44, 45, 46, 47, 48, 49, 50, 51] (fun g => [(5, .int .i64 (g.1 : Int)), (3, g.2.2.2.1)]) (fun hl g => (hl.set 0 (row g.2.2.2.1 T25 1 g.2.1.length g.2.2.2.2))) (fun g => g.2.2.1) (fun g => (g.1 ≤ a.ranks.length) ∧ (VLe V g.2.2.1) ∧ (RepL (RSI g.2.2.1) 1 g.2.1 g.2.2.2.2) ∧ (subsV g.2.2.2.1 g.2.1.length) ∧ (refSyms a out.length a.ranks 0 out = refSyms a out.length (a.ranks.drop g.1) g.1 g.2.1) ∧ (RefOk a g.2.1) ∧ (out.length ≤ g.2.1.length)) (fun g => a.ranks.length - g.1) (0, out, V, .slice wa out.length wcp, cells) ⟨Nat.zero_le _, VLe.refl _, hC, hw, rfl, hok, Nat.le_refl _⟩ ⟨rfl, rfl, trivial⟩ (by simp only [args0, Nat.reduceAdd, del, memN, beqN, Nat.reduceBEq, cond_true, cond_false]; rfl) rfl rfl ?_
    rintro ⟨sym, out1, V1, w1, cells1⟩ ⟨hs, hV1, hC1, hw1, hR1, hok1, hge⟩
    dsimp only at hs hV1 hC1 hw1 hR1 hok1 hge
    dsimp only [List.set, List.cons_append, List.nil_append]
    obtain ⟨wa1, wcp1, rfl⟩ := hw1.shape
    refine K_seq ?_
    refine K_seq ?_
    refine K_region ?_
    refine KV (R_move rfl) rfl ?_
    refine KV (R_fieldAddr 0 fd42_0 rfl) rfl ?_
    refine KV (R_loadO ty25 1 rfl rfl rfl rfl (fun _ => rfl) rfl) rfl ?_
    refine KV (R_len sl25 rfl) rfl ?_
    refine KV (R_cmp rfl rfl rfl) rfl ?_
    refine K_nil ?_
    refine Q_then ?_
    refine K_if rfl (fun h19 => ?_) (fun h19 => ?_)
    ·
      have hs2 : sym < a.ranks.length := by omega
      obtain ⟨rb, ro, rfl, hrk⟩ := (ha.mono (hV.trans hV1)).r.get hs2
      have hrk2 := haok.rk sym hs2
      obtain ⟨nn, hnn⟩ : ∃ nn : Nat, a.ranks[sym] = (nn : Int) := ⟨a.ranks[sym].toNat, by omega⟩
      have hnt : a.ranks[sym].toNat = nn := by omega
      rw [hnn] at hrk
      have htpl : (tups out.length nn).length ≤ 262144 := by rw [tups_len]; exact pow_le2 (by omega) (by omega)
      refine K_skip ?_
      refine Q_then ?_
      refine K_seq ?_
      refine K_block ?_
      refine K_seq ?_
      refine K_region ?_
      refine KV (R_fieldAddr 0 fd42_0 rfl) rfl ?_
      refine KV (R_loadO ty25 1 rfl rfl rfl rfl (fun _ => rfl) rfl) rfl ?_
      refine KV (R_move rfl) rfl ?_
      refine KV (R_indexN sl25 ty3 rfl rfl (by omega)) rfl ?_
      refine KV (R_loadH ty3 rfl (hrk) rfl (fun _ => rfl) rfl) rfl ?_
      refine KV (R_move rfl) rfl ?_
      refine K_call c56 rfl rfl (rtuples_spec nn out.length (by omega) (by omega) V1) ?_
      rintro tv Vt hvt hts
      obtain ⟨ta, tcp, rfl⟩ := hts.shape
      refine KV (R_assign rfl) rfl ?_
      refine K_nil ?_
      refine Q_then ?_
      refine K_seq ?_
      refine K_region ?_
      refine KV (R_assign rfl) rfl ?_
      refine K_nil ?_
      refine Q_then ?_
      refine K_block ?_
      refine K_loopD (G := Nat × List (List Int) × View × Value × List Value) [3, 7, 8, 29, 30, 31, 32, 33, 34, 35, 36, 37, 38, 39, 40, 41, 42, 43, 44, 45, 46, 47, 48, 49, 50, 51] (fun g => [(7, .int .i64 (g.1 : Int)), (3, g.2.2.2.1)]) (fun hl g => (hl.set 0 (row g.2.2.2.1 T25 1 g.2.1.length g.2.2.2.2))) (fun g => g.2.2.1) (fun g => (g.1 ≤ (tups out.length nn).length) ∧ (VLe Vt g.2.2.1) ∧ (RepL (RSI g.2.2.1) 1 g.2.1 g.2.2.2.2) ∧ (subsV g.2.2.2.1 g.2.1.length) ∧ (refSteps a sym (tups out.length nn) out1 = refSteps a sym ((tups out.length nn).drop g.1) g.2.1) ∧ (RefOk a g.2.1) ∧ (out1.length ≤ g.2.1.length)) (fun g => (tups out.length nn).length - g.1) (0, out1, Vt, .slice wa1 out1.length wcp1, cells1) ⟨Nat.zero_le _, VLe.refl _, hC1.impSI hvt, hw1, rfl, hok1, Nat.le_refl _⟩ ⟨rfl, rfl, trivial⟩ (by simp only [args0, Nat.reduceAdd, del, memN, beqN, Nat.reduceBEq, cond_true, cond_false]; rfl) rfl rfl ?_
      rintro ⟨i, out2, V2, w2, cells2⟩ ⟨hi, hV2, hC2, hw2, hR2, hok2, hge2⟩
      dsimp only at hi hV2 hC2 hw2 hR2 hok2 hge2
      dsimp only [List.set, List.cons_append, List.nil_append]
      obtain ⟨wa2, wcp2, rfl⟩ := hw2.shape
      have hol2 := hok2.len h6
      refine K_seq ?_
      refine K_seq ?_
      refine K_region ?_
      refine KV (R_move rfl) rfl ?_
      refine KV (R_move rfl) rfl ?_
      refine KV (R_len sl44 rfl) rfl ?_
      refine KV (R_cmp rfl rfl rfl) rfl ?_
      refine K_nil ?_
      refine Q_then ?_
      refine K_if rfl (fun h32 => ?_) (fun h32 => ?_)
      ·
        have hi2 : i < (tups out.length nn).length := by omega
        obtain ⟨tb, to_, xa, xcp, hte, hta, hxs⟩ := (hts.mono hV2).get hi2
        cases hte
        have htl := (tups_item (List.getElem_mem hi2)).1
        have hals : ∀ r ∈ a.rules, r.sym = (sym : Int) → r.args.length = (ofM out2 (tups out.length nn)[i]).length := by
          intro r hr hrs
          have h1 := (haok.ru r hr).2.2.1
          rw [hrs] at h1
          have h2 : a.ranks.getD sym 0 = a.ranks[sym] := by simp [List.getD, hs2]
          rw [Int.toNat_natCast, h2, hnn] at h1
          simp only [ofM, List.length_map, htl]
          omega
        have hali : ∀ x ∈ ofM out2 (tups out.length nn)[i], x.length ≤ 1048576 := by
          intro x hx
          obtain ⟨y, hy, rfl⟩ := List.mem_map.1 hx
          have h3 := (tups_item (List.getElem_mem hi2)).2 y hy
          have h4 : y.toNat < out2.length := by omega
          have h5 : out2.getD y.toNat [] = out2[y.toNat] := by simp [List.getD, h4]
          rw [h5]
          exact hok2.item (by omega) _ (List.getElem_mem h4)
        refine K_skip ?_
        refine Q_then ?_
        refine K_seq ?_
        refine K_block ?_
        refine K_seq ?_
        refine K_regionD (fin := false) (R := [0, 1, 2, 3, 4, 5, 6, 7, 8, 9]) (by kernel_rfl) mixed (.cons _ (.cons_cons _ (List.nil_sublist _))) ?_
        refine D_val rfl rfl rfl (R_loadO ty42 0 rfl rfl rfl rfl (fun e => by cases e) rfl) ?_
        refine D_val rfl rfl rfl (R_move rfl) ?_
        refine D_val rfl rfl rfl (R_move rfl) ?_
        refine D_val rfl rfl rfl (R_move rfl) ?_
        refine D_val rfl rfl rfl (R_move rfl) ?_
        refine D_val rfl rfl rfl (R_indexN sl44 ty25 rfl rfl (by omega)) ?_
        refine D_val rfl rfl rfl (R_loadH ty25 rfl (hta) rfl (fun _ => rfl) rfl) ?_
        have hws2 : subsV (.slice wa2 out2.length wcp2) out2.length := hw2
        refine D_callO (first := []) [_] [_] rfl rfl c58 rfl rfl (List.Perm.refl _) ⟨⟨0, rfl⟩, trivial⟩ (of_spec2 [_] out2 _ cells2 V2 (row_rd hws2) hC2 (tups out.length nn)[i] _ hxs (by omega) (by intro x hx; have := (tups_item (List.getElem_mem hi2)).2 x hx; omega)) ?_
        rintro lsv V3 q hle3 ⟨rfl, hls⟩
        obtain ⟨lsa, lscp, rfl⟩ := hls.shape
        dsimp only [List.cons_append, List.nil_append]
        refine D_call rfl rfl c57 rfl ⟨⟨1, rfl⟩, trivial⟩ (next_spec a haok sym (ofM out2 (tups out.length nn)[i]) _ _ _ _ V3 (ha.mono (hV.trans (hV1.trans (hvt.trans (hV2.trans hle3))))) hls hals (by simp only [ofM, List.length_map]; omega) hali) ?_
        rintro sv V4 hle4 hsn
        obtain ⟨sa, scp, rfl⟩ := hsn.shape
        refine D_val rfl rfl rfl (R_assign rfl) ?_
        refine D_done ?_
        refine Q_then ?_
        refine K_seq ?_
        refine K_region ?_
        refine KV (R_move rfl) rfl ?_
        refine KV (R_move rfl) rfl ?_
        refine K_callO (first := []) [_] [_] (List.Perm.refl _) c59 rfl rfl rfl (find_spec [_] out2 _ cells2 V4 (row_rd hws2) (hC2.impSI (hle3.trans hle4)) (by omega) (hok2.item (by omega)) (refNext a sym (ofM out2 (tups out.length nn)[i])) _ hsn (by rw [refNext_sub]; exact Nat.le_trans (subL_len _ _) (by omega))) ?_
        rintro _ V5 q hle5 ⟨rfl, rfl⟩
        dsimp only [List.cons_append, List.nil_append]
        refine KV (R_cmp rfl rfl rfl) rfl ?_
        refine K_nil ?_
        refine Q_then ?_
        refine K_if rfl (fun h47 => ?_) (fun h47 => ?_)
        ·
          have hnm : ¬ refNext a sym (ofM out2 (tups out.length nn)[i]) ∈ out2 := refFind_neg.1 h47
          refine K_region ?_
          refine KV (R_move rfl) rfl ?_
          refine KV (R_move rfl) rfl ?_
          refine KA (A_buildSlice (vs := [.slice sa (refNext a sym (ofM out2 (tups out.length nn)[i])).length scp]) sl44 ty25 z25 rfl rfl (by simp [Value.cells]) (by simp) rfl (by decide)) rfl fun b50 => ?_
          refine K_append1 0 ap44 rfl rfl rfl rfl rfl rfl ⟨by omega, by omega⟩ rfl fun a51 k51 hn51 => ?_
          refine KV (R_assign rfl) rfl ?_
          refine K_nil ?_
          refine KQ_rowshape 0 rfl fun hws => ?_
          refine Q_block ?_
          refine Q_then ?_
          refine K_region ?_
          refine KV (R_move rfl) rfl ?_
          refine KV (R_add rfl rfl (by omega)) rfl ?_
          refine KV (R_assign rfl) rfl ?_
          refine K_nil ?_
          refine Q_nextD (i + 1, out2 ++ [refNext a sym (ofM out2 (tups out.length nn)[i])], V5, .slice a51 (out2.length + 1) k51, cells2 ++ [.slice sa (refNext a sym (ofM out2 (tups out.length nn)[i])).length scp]) ⟨hi2, hV2.trans (hle3.trans (hle4.trans hle5)), (hC2.impSI (hle3.trans (hle4.trans hle5))).snoc ⟨_, rfl, hsn.mono hle5⟩ rfl, by simpa using hws, by rw [hR2, refSteps_cons hi2, refStep, if_neg hnm], hok2.snoc hnm, by simp only [List.length_append, List.length_cons, List.length_nil]; omega⟩ (by (try dsimp only); omega) ⟨rfl, rfl, trivial⟩ rfl (by simp only [List.length_append, List.length_cons, List.length_nil]; rfl) rfl
        ·
          have hnm : refNext a sym (ofM out2 (tups out.length nn)[i]) ∈ out2 := Decidable.not_not.1 fun h => h47 (refFind_neg.2 h)
          refine K_skip ?_
          refine Q_block ?_
          refine Q_then ?_
          refine K_region ?_
          refine KV (R_move rfl) rfl ?_
          refine KV (R_add rfl rfl (by omega)) rfl ?_
          refine KV (R_assign rfl) rfl ?_
          refine K_nil ?_
          refine Q_nextD (i + 1, out2, V5, .slice wa2 out2.length wcp2, cells2) ⟨hi2, hV2.trans (hle3.trans (hle4.trans hle5)), hC2.impSI (hle3.trans (hle4.trans hle5)), hw2, by rw [hR2, refSteps_cons hi2, refStep, if_pos hnm], hok2, hge2⟩ (by (try dsimp only); omega) ⟨rfl, rfl, trivial⟩ rfl rfl rfl
      ·
        have hi' : i = (tups out.length nn).length := by omega
        refine K_exit ?_
        refine Q_then_exit ?_
        refine Q_then_exit ?_
        refine Q_block_exit ?_
        refine Q_block ?_
        refine Q_then ?_
        refine K_region ?_
        refine KV (R_move rfl) rfl ?_
        refine KV (R_add rfl rfl (by omega)) rfl ?_
        refine KV (R_assign rfl) rfl ?_
        refine K_nil ?_
        refine Q_nextD (sym + 1, out2, V2, .slice wa2 out2.length wcp2, cells2) ⟨hs2, hV1.trans (hvt.trans hV2), hC2, hw2, by rw [hR1, List.drop_eq_getElem_cons hs2, refSyms, hnt, hR2, hi', List.drop_length]; rfl, hok2, Nat.le_trans hge hge2⟩ (by (try dsimp only); omega) ⟨rfl, rfl, trivial⟩ rfl rfl rfl
    ·
      have hs' : sym = a.ranks.length := by omega
      refine K_exit ?_
      refine Q_then_exit ?_
      refine Q_then_exit ?_
      refine Q_block_exit ?_
      refine Q_block ?_
      obtain ⟨F, rfl⟩ : ∃ F2, F = F2 + 1 := ⟨F - 1, by omega⟩
      rw [refRounds, if_pos h12, hR1, hs'] at hF
      rw [List.drop_length, refSyms] at hF
      refine Q_nextD (F, out.length, out1, V1, .slice wa1 out1.length wcp1, cells1) ⟨hV.trans hV1, hC1, hw1, hF, by dsimp only; omega, hok1⟩ (by (try dsimp only); omega) ⟨rfl, rfl, trivial⟩ rfl rfl rfl
  ·
    have hfin : refSubs a = out := by
      rw [← hF]
      cases F with
      | zero => rfl
      | succ F => rw [refRounds, if_neg h12]
    refine K_exit ?_
    refine Q_then_exit ?_
    refine Q_then_exit ?_
    refine Q_block_exit ?_
    refine Q_then ?_
    refine K_seq ?_
    refine K_region ?_
    refine KV (R_move rfl) rfl ?_
    refine KV (R_assign rfl) rfl ?_
    refine K_nil ?_
    refine Q_then ?_
    refine K_ret ?_
    refine KQ_pubrow rfl fun Hp hp hrow => ?_
    refine results_gen (rs := [.tmp 2]) (vs := [_]) rfl ⟨rfl, trivial⟩ ?_
    rw [hfin]
    exact ⟨⟨cells, hrow.sl, hC.impSI hp⟩, hok⟩
end Go.Proofs.X

namespace Go.Proofs.X
open Go Pal Go.Proofs
attribute [local irreducible] Pal.KO Pal.KC Pal.KQ Pal.KD
theorem c21 : callable Tryd.prog F21 = true := by kernel_rfl
theorem rfrom_spec (a : Au) (haok : AuOk a) (h6 : a.states ≤ 6) (vr vu vf : Value) (H : View) (ha : RepAu H a vr vu vf) : Sat Tryd.prog F25 #[.agg #[vr, .int .i64 a.states, vu, vf]] H (fun r H' => ∃ v1 v2 v3, r = .agg #[v1, v2, v3] ∧ RepDt H' (refFrom a) v1 v2 v3) := by
  obtain ⟨ra, rcp, rfl⟩ := ha.r.shape
  obtain ⟨fa, fcp, rfl⟩ := ha.f.shape
  have hrl := haok.rl
  have hfl := ha.fl
  refine enterO (n := 93) (args := [.agg #[.slice ra a.ranks.length rcp, .int .i64 a.states, vu, .slice fa a.final.length fcp]]) Tryd.func25 rfl rfl rfl fun w0 => ?_
  refine K_seq ?_
  refine K_region ?_
  refine KA (A_box rfl) rfl fun b1 => ?_
  refine KA (A_alloc z63) rfl fun b2 => ?_
  refine K_nil ?_
  refine Q_then ?_
  refine K_seq ?_
  refine K_region ?_
  refine KV (R_loadO ty42 1 rfl rfl rfl rfl (fun e => by cases e) rfl) rfl ?_
  refine K_call c21 rfl rfl (rsubs_spec a haok h6 _ _ _ H ha) ?_
  rintro lv V0 hle0 ⟨hls, hok⟩
  obtain ⟨la, lcp, rfl⟩ := hls.shape
  have hll := hok.len h6
  have hit := hok.item (by omega)
  refine KV (R_assign rfl) rfl ?_
  refine K_nil ?_
  refine Q_then ?_
  refine K_seq ?_
  refine K_region ?_
  refine KV (R_fieldAddr 0 fd42_0 rfl) rfl ?_
  refine KV (R_loadO ty25 1 rfl rfl rfl rfl (fun _ => rfl) rfl) rfl ?_
  refine KV (R_build z63 pl63 rfl rfl) rfl ?_
  refine KA (A_alloc z63) rfl fun b4 => ?_
  refine K_store ty63 0 rfl rfl rfl rfl rfl rfl ?_
  refine K_nil ?_
  refine Q_then ?_
  refine K_seq ?_
  refine K_seq ?_
  refine K_region ?_
  refine KV (R_assign rfl) rfl ?_
  refine K_nil ?_
  refine Q_then ?_
  refine K_block ?_
  refine K_nilrow T4 1 ?_
  refine K_loopD (G := Nat × View × Value) [5, 6, 7, 17, 18, 19, 20, 21, 22, 23, 24, 25, 26, 27, 28, 29, 30, 31, 32, 33, 34, 35, 36, 37, 38, 39, 40, 41, 42, 43, 44, 45, 46, 47, 48, 49, 50] (fun g => [(5, .int .i64 (g.1 : Int))]) (fun hl g => ((hl.set 0 (row g.2.2 T4 1 g.1 (bools (((refSubs a).take g.1).map fun l => l.any fun x => decide (x ∈ a.final))))).set 1 (blk b4 (.cells #[.slice ra a.ranks.length rcp, g.2.2, .slice none 0 0] T63 (0, 0))))) (fun g => g.2.1) (fun g => (g.1 ≤ (refSubs a).length) ∧ (VLe V0 g.2.1) ∧ (∃ ad cp, g.2.2 = .slice ad g.1 cp)) (fun g => (refSubs a).length - g.1) (0, V0, nilS) ⟨Nat.zero_le _, VLe.refl _, none, 0, rfl⟩ ⟨rfl, trivial⟩ (by simp only [args0, Nat.reduceAdd, del, memN, beqN, Nat.reduceBEq, cond_true, cond_false]; rfl) rfl rfl ?_
  rintro ⟨i, V, w⟩ ⟨hi, hV, hw⟩
  dsimp only at hi hV hw
  dsimp only [List.set, List.cons_append, List.nil_append]
  obtain ⟨wa, wcp, rfl⟩ := hw
  refine K_seq ?_
  refine K_seq ?_
  refine K_region ?_
  refine KV (R_move rfl) rfl ?_
  refine KV (R_move rfl) rfl ?_
  refine KV (R_len sl44 rfl) rfl ?_
  refine KV (R_cmp rfl rfl rfl) rfl ?_
  refine K_nil ?_
  refine Q_then ?_
  refine K_if rfl (fun h20 => ?_) (fun h20 => ?_)
  ·
    have hi' : i < (refSubs a).length := by omega
    refine K_skip ?_
    refine Q_then ?_
    refine K_seq ?_
    refine K_block ?_
    refine K_seq ?_
    refine K_region ?_
    refine KV (R_assign rfl) rfl ?_
    refine K_nil ?_
    refine Q_then ?_
    refine K_seq ?_
    refine K_seq ?_
    refine K_region ?_
    refine KV (R_assign rfl) rfl ?_
    refine K_nil ?_
    refine Q_then ?_
    refine K_block ?_
    refine K_loopD (G := Nat × View) [6, 7, 23, 24, 25, 26, 27, 28, 29, 30, 31, 32, 33, 34, 35, 36, 37, 38, 39, 40, 41, 42, 43, 44] (fun g => [(7, .int .i64 (g.1 : Int)), (6, .bool (((refSubs a)[i].take g.1).any fun x => decide (x ∈ a.final)))]) (fun hl g => hl) (fun g => g.2) (fun g => (g.1 ≤ (refSubs a)[i].length) ∧ (VLe V g.2)) (fun g => (refSubs a)[i].length - g.1) (0, V) ⟨Nat.zero_le _, VLe.refl _⟩ ⟨rfl, rfl, trivial⟩ (by simp only [args0, Nat.reduceAdd, del, memN, beqN, Nat.reduceBEq, cond_true, cond_false]; rfl) rfl rfl ?_
    rintro ⟨k, U⟩ ⟨hk, hVU⟩
    dsimp only at hk hVU
    dsimp only [List.set, List.cons_append, List.nil_append]
    refine K_seq ?_
    refine K_seq ?_
    obtain ⟨lb, lo, ea, ecp, hle, hta, hes⟩ := (hls.mono (hV.trans hVU)).get hi'
    cases hle
    have hitl := hit _ (List.getElem_mem hi')
    refine K_region ?_
    refine KV (R_move rfl) rfl ?_
    refine KV (R_move rfl) rfl ?_
    refine KV (R_move rfl) rfl ?_
    refine KV (R_indexN sl44 ty25 rfl rfl (by omega)) rfl ?_
    refine KV (R_loadH ty25 rfl (hta) rfl (fun _ => rfl) rfl) rfl ?_
    refine KV (R_len sl25 rfl) rfl ?_
    refine KV (R_cmp rfl rfl rfl) rfl ?_
    refine K_nil ?_
    refine Q_then ?_
    refine K_if rfl (fun h29 => ?_) (fun h29 => ?_)
    ·
      have hk' : k < (refSubs a)[i].length := by omega
      obtain ⟨eb, eo, hee, htx⟩ := hes.get hk'
      cases hee
      refine K_skip ?_
      refine Q_then ?_
      refine K_seq ?_
      refine K_block ?_
      refine K_regionD (fin := false) (R := [0, 1, 2, 3, 4, 5, 6, 7, 8, 9, 10, 11, 12, 13]) (by kernel_rfl) mixed (.cons_cons _ (.cons_cons _ (.cons_cons _ (.cons_cons _ (List.nil_sublist _))))) ?_
      refine D_val rfl rfl rfl (R_move rfl) ?_
      refine D_val rfl rfl rfl (R_move rfl) ?_
      refine D_splitB ?_ ?_
      ·
        intro h33
        refine D_skip rfl rfl ?_
        refine D_skip rfl rfl ?_
        refine D_skip rfl rfl ?_
        refine D_skip rfl rfl ?_
        refine D_skip rfl rfl ?_
        refine D_skip rfl rfl ?_
        refine D_skip rfl rfl ?_
        refine D_skip rfl rfl ?_
        refine D_skip rfl rfl ?_
        refine D_skip rfl rfl ?_
        refine D_val rfl rfl rfl (R_pickT rfl rfl) ?_
        refine D_val rfl rfl rfl (R_assign rfl) ?_
        refine D_done ?_
        refine Q_block ?_
        refine Q_then ?_
        refine K_region ?_
        refine KV (R_move rfl) rfl ?_
        refine KV (R_add rfl rfl (by omega)) rfl ?_
        refine KV (R_assign rfl) rfl ?_
        refine K_nil ?_
        refine Q_nextD (k + 1, U) ⟨hk', hVU⟩ (by (try dsimp only); omega) ⟨rfl, congrArg (fun z => some (Value.bool z)) (by rw [any_succ hk', h33]; rfl), trivial⟩ rfl rfl rfl
      ·
        intro h33
        refine D_val rfl rfl rfl (R_fieldAddr 3 fd42_3 rfl) ?_
        refine D_val rfl rfl rfl (R_loadO ty25 3 rfl rfl rfl rfl (fun _ => rfl) rfl) ?_
        refine D_val rfl rfl rfl (R_move rfl) ?_
        refine D_val rfl rfl rfl (R_move rfl) ?_
        refine D_val rfl rfl rfl (R_indexN sl44 ty25 rfl rfl (by omega)) ?_
        refine D_val rfl rfl rfl (R_loadH ty25 rfl (hta) rfl (fun _ => rfl) rfl) ?_
        refine D_val rfl rfl rfl (R_move rfl) ?_
        refine D_val rfl rfl rfl (R_indexN sl25 ty3 rfl rfl (by omega)) ?_
        refine D_val rfl rfl rfl (R_loadH ty3 rfl (htx) rfl (fun _ => rfl) rfl) ?_
        refine D_call rfl rfl c62 rfl ⟨⟨0, rfl⟩, ⟨1, rfl⟩, ⟨2, rfl⟩, ⟨3, rfl⟩, trivial⟩ (rhas_spec (refSubs a)[i][k] a.final _ U ((ha.mono (hle0.trans (hV.trans hVU))).f) hfl) ?_
        rintro _ U1 hU1 rfl
        refine D_val rfl rfl rfl (R_pickF rfl rfl) ?_
        refine D_val rfl rfl rfl (R_assign rfl) ?_
        refine D_done ?_
        refine Q_block ?_
        refine Q_then ?_
        refine K_region ?_
        refine KV (R_move rfl) rfl ?_
        refine KV (R_add rfl rfl (by omega)) rfl ?_
        refine KV (R_assign rfl) rfl ?_
        refine K_nil ?_
        refine Q_nextD (k + 1, U1) ⟨hk', hVU.trans hU1⟩ (by (try dsimp only); omega) ⟨rfl, congrArg (fun z => some (Value.bool z)) (by rw [any_succ hk', h33]; simp), trivial⟩ rfl rfl rfl
    ·
      have hk' : k = (refSubs a)[i].length := by omega
      rw [hk', List.take_length]
      refine K_exit ?_
      refine Q_then_exit ?_
      refine Q_then_exit ?_
      refine Q_block_exit ?_
      refine Q_then ?_
      refine K_region ?_
      refine KV (R_fieldAddr 1 fd63_1 rfl) rfl ?_
      refine KV (R_loadO ty52 1 rfl rfl rfl rfl (fun _ => rfl) rfl) rfl ?_
      refine KV (R_move rfl) rfl ?_
      refine KA (A_buildSlice (vs := [.bool ((refSubs a)[i].any fun x => decide (x ∈ a.final))]) sl52 ty4 z4 rfl rfl (by simp [Value.cells]) (by simp) rfl (by decide)) rfl fun b48 => ?_
      refine K_append1 0 ap52 rfl rfl rfl rfl rfl rfl ⟨by omega, by omega⟩ rfl fun a49 k49 hn49 => ?_
      refine KV (R_fieldAddr 1 fd63_1 rfl) rfl ?_
      refine K_store ty52 1 rfl rfl rfl rfl rfl rfl ?_
      refine K_nil ?_
      refine Q_block ?_
      refine Q_then ?_
      refine K_region ?_
      refine KV (R_move rfl) rfl ?_
      refine KV (R_add rfl rfl (by omega)) rfl ?_
      refine KV (R_assign rfl) rfl ?_
      refine K_nil ?_
      refine Q_nextD (i + 1, U, .slice a49 (i + 1) k49) ⟨hi', hV.trans hVU, _, _, rfl⟩ (by (try dsimp only); omega) ⟨rfl, trivial⟩ rfl (by dsimp only; rw [take_bools_snoc hi']; rfl) rfl
  ·
    have hi' : i = (refSubs a).length := by omega
    subst hi'
    rw [List.take_length]
    refine K_exit ?_
    refine Q_then_exit ?_
    refine Q_then_exit ?_
    refine Q_block_exit ?_
    refine Q_then ?_
    refine K_seq ?_
    refine K_seq ?_
    refine K_region ?_
    refine KV (R_assign rfl) rfl ?_
    refine K_nil ?_
    refine Q_then ?_
    refine K_block ?_
    refine K_nilrow T25 1 ?_
    refine K_loopD (G := Nat × View × Value × List Value) [8, 9, 10, 11, 51, 52, 53, 54, 55, 56, 57, 58, 59, 60, 61, 62, 63, 64, 65, 66, 67, 68, 69, 70, 71, 72, 73, 74, 75, 76, 77, 78, 79, 80, 81, 82, 83, 84, 85, 86, 87, 88, 89, 90, 91] (fun g => [(8, .int .i64 (g.1 : Int))]) (fun hl g => ((hl.set 0 (row g.2.2.1 T25 1 g.1 g.2.2.2)).set 2 (blk b4 (.cells #[.slice ra a.ranks.length rcp, .slice wa (refSubs a).length wcp, g.2.2.1] T63 (0, 0))))) (fun g => g.2.1) (fun g => (g.1 ≤ a.ranks.length) ∧ (VLe V0 g.2.1) ∧ (RepL (RSI g.2.1) 1 ((List.range g.1).map (refTo a (refSubs a))) g.2.2.2) ∧ (∃ ad cp, g.2.2.1 = .slice ad g.1 cp)) (fun g => a.ranks.length - g.1) (0, V, nilS, []) ⟨Nat.zero_le _, hV, .nil, none, 0, rfl⟩ ⟨rfl, trivial⟩ (by simp only [args0, Nat.reduceAdd, del, memN, beqN, Nat.reduceBEq, cond_true, cond_false]; rfl) rfl rfl ?_
    rintro ⟨sym, V, w, cells⟩ ⟨hs, hV, hC, hw⟩
    dsimp only at hs hV hC hw
    dsimp only [List.set, List.cons_append, List.nil_append]
    obtain ⟨za, zcp, rfl⟩ := hw
    refine K_seq ?_
    refine K_seq ?_
    refine K_region ?_
    refine KV (R_move rfl) rfl ?_
    refine KV (R_fieldAddr 0 fd42_0 rfl) rfl ?_
    refine KV (R_loadO ty25 4 rfl rfl rfl rfl (fun _ => rfl) rfl) rfl ?_
    refine KV (R_len sl25 rfl) rfl ?_
    refine KV (R_cmp rfl rfl rfl) rfl ?_
    refine K_nil ?_
    refine Q_then ?_
    refine K_if rfl (fun h55 => ?_) (fun h55 => ?_)
    ·
      have hs2 : sym < a.ranks.length := by omega
      obtain ⟨rb, ro, hre, hrk⟩ := (ha.mono (hle0.trans hV)).r.get hs2
      cases hre
      have hrk2 := haok.rk sym hs2
      obtain ⟨nn, hnn⟩ : ∃ nn : Nat, a.ranks[sym] = (nn : Int) := ⟨a.ranks[sym].toNat, by omega⟩
      have hnt : a.ranks[sym].toNat = nn := by omega
      rw [hnn] at hrk
      have htpl : (tups (refSubs a).length nn).length ≤ 262144 := by rw [tups_len]; exact pow_le2 (by omega) (by omega)
      refine K_skip ?_
      refine Q_then ?_
      refine K_seq ?_
      refine K_block ?_
      refine K_seq ?_
      refine K_region ?_
      refine KV (R_assign rfl) rfl ?_
      refine K_nil ?_
      refine Q_then ?_
      refine K_seq ?_
      refine K_region ?_
      refine KV (R_fieldAddr 0 fd42_0 rfl) rfl ?_
      refine KV (R_loadO ty25 4 rfl rfl rfl rfl (fun _ => rfl) rfl) rfl ?_
      refine KV (R_move rfl) rfl ?_
      refine KV (R_indexN sl25 ty3 rfl rfl (by omega)) rfl ?_
      refine KV (R_loadH ty3 rfl (hrk) rfl (fun _ => rfl) rfl) rfl ?_
      refine KV (R_move rfl) rfl ?_
      refine KV (R_len sl44 rfl) rfl ?_
      refine K_call c56 rfl rfl (rtuples_spec nn (refSubs a).length (by omega) (by omega) V) ?_
      rintro tv Vt hvt hts
      obtain ⟨ta, tcp, rfl⟩ := hts.shape
      refine KV (R_assign rfl) rfl ?_
      refine K_nil ?_
      refine Q_then ?_
      refine K_seq ?_
      refine K_seq ?_
      refine K_region ?_
      refine KV (R_assign rfl) rfl ?_
      refine K_nil ?_
      refine Q_then ?_
      refine K_block ?_
      refine K_nilrow T3 1 ?_
      refine K_loopD (G := Nat × View × Value) [9, 11, 66, 67, 68, 69, 70, 71, 72, 73, 74, 75, 76, 77, 78, 79, 80, 81, 82, 83, 84, 85] (fun g => [(11, .int .i64 (g.1 : Int)), (9, g.2.2)]) (fun hl g => (hl.set 0 (row g.2.2 T3 1 g.1 (ints (((tups (refSubs a).length nn).take g.1).map fun xs => refFind (refSubs a) (refNext a (sym : Int) (ofM (refSubs a) xs))))))) (fun g => g.2.1) (fun g => (g.1 ≤ (tups (refSubs a).length nn).length) ∧ (VLe Vt g.2.1) ∧ (∃ ad cp, g.2.2 = .slice ad g.1 cp)) (fun g => (tups (refSubs a).length nn).length - g.1) (0, Vt, nilS) ⟨Nat.zero_le _, VLe.refl _, none, 0, rfl⟩ ⟨rfl, rfl, trivial⟩ (by simp only [args0, Nat.reduceAdd, del, memN, beqN, Nat.reduceBEq, cond_true, cond_false]; rfl) rfl rfl ?_
      rintro ⟨i, V2, w2⟩ ⟨hi, hV2, hw2⟩
      dsimp only at hi hV2 hw2
      dsimp only [List.set, List.cons_append, List.nil_append]
      obtain ⟨xa2, xcp2, rfl⟩ := hw2
      refine K_seq ?_
      refine K_seq ?_
      refine K_region ?_
      refine KV (R_move rfl) rfl ?_
      refine KV (R_move rfl) rfl ?_
      refine KV (R_len sl44 rfl) rfl ?_
      refine KV (R_cmp rfl rfl rfl) rfl ?_
      refine K_nil ?_
      refine Q_then ?_
      refine K_if rfl (fun h69 => ?_) (fun h69 => ?_)
      ·
        have hi2 : i < (tups (refSubs a).length nn).length := by omega
        obtain ⟨tb, to_, xa, xcp, hte, htt, hxs⟩ := (hts.mono hV2).get hi2
        cases hte
        have htl := (tups_item (List.getElem_mem hi2)).1
        have hals : ∀ r ∈ a.rules, r.sym = (sym : Int) → r.args.length = (ofM (refSubs a) (tups (refSubs a).length nn)[i]).length := by
          intro r hr hrs
          have h1 := (haok.ru r hr).2.2.1
          rw [hrs] at h1
          have h2 : a.ranks.getD sym 0 = a.ranks[sym] := by simp [List.getD, hs2]
          rw [Int.toNat_natCast, h2, hnn] at h1
          simp only [ofM, List.length_map, htl]
          omega
        have hali : ∀ x ∈ ofM (refSubs a) (tups (refSubs a).length nn)[i], x.length ≤ 1048576 := by
          intro x hx
          obtain ⟨y, hy, rfl⟩ := List.mem_map.1 hx
          have h3 := (tups_item (List.getElem_mem hi2)).2 y hy
          have h4 : y.toNat < (refSubs a).length := by omega
          have h5 : (refSubs a).getD y.toNat [] = (refSubs a)[y.toNat] := by simp [List.getD, h4]
          rw [h5]
          exact hit _ (List.getElem_mem h4)
        refine K_skip ?_
        refine Q_then ?_
        refine K_seq ?_
        refine K_block ?_
        refine K_regionD (fin := false) (R := [0, 1, 2, 3, 4, 5, 6, 7, 8, 9, 10, 11, 12, 13, 14]) (by kernel_rfl) mixed (.cons _ (.cons_cons _ (.cons_cons _ (.cons_cons _ (.cons_cons _ (.cons_cons _ (List.nil_sublist _))))))) ?_
        refine D_val rfl rfl rfl (R_move rfl) ?_
        refine D_val rfl rfl rfl (R_move rfl) ?_
        refine D_val rfl rfl rfl (R_loadO ty42 4 rfl rfl rfl rfl (fun e => by cases e) rfl) ?_
        refine D_val rfl rfl rfl (R_move rfl) ?_
        refine D_val rfl rfl rfl (R_move rfl) ?_
        refine D_val rfl rfl rfl (R_move rfl) ?_
        refine D_val rfl rfl rfl (R_move rfl) ?_
        refine D_val rfl rfl rfl (R_indexN sl44 ty25 rfl rfl (by omega)) ?_
        refine D_val rfl rfl rfl (R_loadH ty25 rfl (htt) rfl (fun _ => rfl) rfl) ?_
        obtain ⟨lcells, hls1, hls2⟩ := hls.mono (hV.trans (hvt.trans hV2))
        refine D_callO (first := []) [] _ rfl rfl c58 rfl rfl (List.Perm.refl _) ⟨⟨1, rfl⟩, ⟨2, rfl⟩, ⟨3, rfl⟩, ⟨4, rfl⟩, ⟨5, rfl⟩, trivial⟩ (of_spec2 [] (refSubs a) _ lcells V2 hls1.rd hls2 (tups (refSubs a).length nn)[i] _ hxs (by omega) (by intro x hx; have := (tups_item (List.getElem_mem hi2)).2 x hx; omega)) ?_
        rintro lsv V3 q hle3 ⟨rfl, hls3⟩
        obtain ⟨lsa, lscp, rfl⟩ := hls3.shape
        dsimp only [List.nil_append]
        refine D_call rfl rfl c57 rfl ⟨⟨1, rfl⟩, ⟨2, rfl⟩, ⟨3, rfl⟩, ⟨4, rfl⟩, ⟨5, rfl⟩, trivial⟩ (next_spec a haok sym (ofM (refSubs a) (tups (refSubs a).length nn)[i]) _ _ _ _ V3 (ha.mono (hle0.trans (hV.trans (hvt.trans (hV2.trans hle3))))) hls3 hals (by simp only [ofM, List.length_map]; omega) hali) ?_
        rintro sv V4 hle4 hsn
        obtain ⟨sa, scp, rfl⟩ := hsn.shape
        obtain ⟨lcells4, hls4, hls5⟩ := hls.mono (hV.trans (hvt.trans (hV2.trans (hle3.trans hle4))))
        refine D_callO (first := []) [] _ rfl rfl c59 rfl rfl (List.Perm.refl _) ⟨⟨1, rfl⟩, ⟨2, rfl⟩, ⟨3, rfl⟩, ⟨4, rfl⟩, ⟨5, rfl⟩, trivial⟩ (find_spec [] (refSubs a) _ lcells4 V4 hls4.rd hls5 (by omega) hit (refNext a sym (ofM (refSubs a) (tups (refSubs a).length nn)[i])) _ hsn (by rw [refNext_sub]; exact Nat.le_trans (subL_len _ _) (by omega))) ?_
        rintro _ V5 q hle5 ⟨rfl, rfl⟩
        dsimp only [List.nil_append]
        refine D_alloc rfl rfl rfl (A_buildSlice (vs := [.int .i64 (refFind (refSubs a) (refNext a (sym : Int) (ofM (refSubs a) (tups (refSubs a).length nn)[i])))]) sl25 ty3 z3 rfl rfl (by simp [Value.cells]) (by simp) rfl (by decide)) fun b84 => ?_
        refine D_append1 0 ap25 rfl rfl rfl rfl rfl rfl ⟨⟨0, rfl⟩, ⟨1, rfl⟩, ⟨2, rfl⟩, ⟨3, rfl⟩, ⟨4, rfl⟩, trivial⟩ rfl rfl ⟨by omega, by omega⟩ fun a85 k85 hn85 => ?_
        refine D_val rfl rfl rfl (R_assign rfl) ?_
        refine D_done ?_
        refine Q_block ?_
        refine Q_then ?_
        refine K_region ?_
        refine KV (R_move rfl) rfl ?_
        refine KV (R_add rfl rfl (by omega)) rfl ?_
        refine KV (R_assign rfl) rfl ?_
        refine K_nil ?_
        refine Q_nextD (i + 1, V5, .slice a85 (i + 1) k85) ⟨hi2, hV2.trans (hle3.trans (hle4.trans hle5)), _, _, rfl⟩ (by (try dsimp only); omega) ⟨rfl, rfl, trivial⟩ rfl (by dsimp only; rw [take_ints_snoc hi2]; rfl) rfl
      ·
        have hi3 : i = (tups (refSubs a).length nn).length := by omega
        refine K_exit ?_
        refine Q_then_exit ?_
        refine Q_then_exit ?_
        refine Q_block_exit ?_
        refine Q_then ?_
        have hrl2 : refTo a (refSubs a) sym = ((tups (refSubs a).length nn).take i).map (fun xs => refFind (refSubs a) (refNext a (sym : Int) (ofM (refSubs a) xs))) := by
          rw [hi3, List.take_length]
          simp only [refTo]
          rw [show a.ranks.getD sym 0 = a.ranks[sym] by simp [List.getD, hs2], hnt]
        have hrln : (((tups (refSubs a).length nn).take i).map (fun xs => refFind (refSubs a) (refNext a (sym : Int) (ofM (refSubs a) xs)))).length = i := by rw [List.length_map, List.length_take]; omega
        refine KC_pubrow rfl fun Wr hWr hrow => ?_
        have hrowI : SI Wr (.slice xa2 (refTo a (refSubs a) sym).length xcp2) (refTo a (refSubs a) sym) := by
          rw [hrl2]
          refine ⟨by rw [hrln]; exact hrow.sl, ?_⟩
          intro x hx
          obtain ⟨y, _, rfl⟩ := List.mem_map.1 hx
          exact refFind_ok (by omega)
        rw [hrl2, hrln] at hrowI
        refine K_region ?_
        refine KV (R_fieldAddr 2 fd63_2 rfl) rfl ?_
        refine KV (R_loadO ty44 2 rfl rfl rfl rfl (fun _ => rfl) rfl) rfl ?_
        refine KV (R_move rfl) rfl ?_
        refine KA (A_buildSlice (vs := [.slice xa2 i xcp2]) sl44 ty25 z25 rfl rfl (by simp [Value.cells]) (by simp) rfl (by decide)) rfl fun b89 => ?_
        refine K_append1 0 ap44 rfl rfl rfl rfl rfl rfl ⟨by omega, by omega⟩ rfl fun a90 k90 hn90 => ?_
        refine KV (R_fieldAddr 2 fd63_2 rfl) rfl ?_
        refine K_store ty44 2 rfl rfl rfl rfl rfl rfl ?_
        refine K_nil ?_
        refine Q_block ?_
        refine Q_then ?_
        refine K_region ?_
        refine KV (R_move rfl) rfl ?_
        refine KV (R_add rfl rfl (by omega)) rfl ?_
        refine KV (R_assign rfl) rfl ?_
        refine K_nil ?_
        refine Q_nextD (sym + 1, Wr, .slice a90 (sym + 1) k90, cells ++ [.slice xa2 i xcp2]) ⟨hs2, hV.trans (hvt.trans (hV2.trans hWr)), by rw [range_map_succ]; exact (hC.impSI (hvt.trans (hV2.trans hWr))).snoc ⟨_, rfl, by rw [hrl2]; exact hrowI⟩ rfl, _, _, rfl⟩ (by (try dsimp only); omega) ⟨rfl, trivial⟩ rfl rfl rfl
    ·
      have hs2 : sym = a.ranks.length := by omega
      subst hs2
      refine K_exit ?_
      refine Q_then_exit ?_
      refine Q_then_exit ?_
      refine Q_block_exit ?_
      refine Q_then ?_
      refine K_seq ?_
      refine K_region ?_
      refine KV (R_loadO ty63 2 rfl rfl rfl rfl (fun e => by cases e) rfl) rfl ?_
      refine K_store ty63 3 rfl rfl rfl rfl rfl rfl ?_
      refine K_nil ?_
      refine Q_then ?_
      refine K_ret ?_
      refine KQ_pubrow rfl fun HpA hpA hrowA => ?_
      refine KQ_pubrow rfl fun HpB hpB hrowB => ?_
      refine results_gen (rs := [.cell 2 63]) (vs := [_]) rfl ⟨⟨_, _, _, _, _, _, 1, rfl, rfl, ty63, (fun e => by cases e), rfl, rfl⟩, trivial⟩ ?_
      refine ⟨_, _, _, rfl, ha.r.mono (hle0.trans (hV.trans (hpA.trans hpB))), ?_, cells, ?_, hC.impSI (hpA.trans hpB)⟩
      · show SlAt _ _ (refFinal a (refSubs a)).length _
        rw [refFinal, List.length_map]
        exact hrowB.sl
      · have := hrowA.sl.mono hpB
        simpa [refFrom] using this
end Go.Proofs.X

namespace Go.Proofs.X
open Go Pal Go.Proofs
attribute [local irreducible] Pal.KO Pal.KC Pal.KQ Pal.KD
theorem c15 : callable Tryd.prog F15 = true := by kernel_rfl
theorem c17 : callable Tryd.prog F17 = true := by kernel_rfl
theorem c19 : callable Tryd.prog F19 = true := by kernel_rfl
theorem c20 : callable Tryd.prog F20 = true := by kernel_rfl
theorem c23 : callable Tryd.prog F23 = true := by kernel_rfl
theorem c25 : callable Tryd.prog F25 = true := by kernel_rfl
theorem subsets_law (a : Au) (most : Int) (vr vu vf : Value) (H : View) (hT : Tab H) (ha : RepAu H a vr vu vf) : Sat Tryd.prog F4 #[.agg #[vr, .int .i64 a.states, vu, vf], .int .i64 most] H (fun v _ => v = .bool true) := by
  obtain ⟨ra, rcp, rfl⟩ := ha.r.shape
  obtain ⟨fa, fcp, rfl⟩ := ha.f.shape
  obtain ⟨ua, ucp, rfl⟩ := ha.ushape
  refine enterO (n := 120) (args := [.agg #[.slice ra a.ranks.length rcp, .int .i64 a.states, .slice ua a.rules.length ucp, .slice fa a.final.length fcp], .int .i64 most]) Tryd.func4 rfl rfl rfl fun w0 => ?_
  refine K_seq ?_
  refine K_region ?_
  refine KA (A_box rfl) rfl fun b2 => ?_
  refine KV (R_assign rfl) rfl ?_
  refine K_nil ?_
  refine Q_then ?_
  refine K_seq ?_
  refine K_seq ?_
  refine K_region ?_
  refine K_call c7 rfl rfl (known_spec H hT) ?_
  rintro _ V1 hv1 rfl
  refine KV (R_not rfl) rfl ?_
  refine KV (R_move rfl) rfl ?_
  refine K_splitB ?_ ?_
  ·
    intro h15
    cases h15
  ·
    intro h15
    refine K_gyes rfl rfl ?_
    refine KV (R_loadO ty42 0 rfl rfl rfl rfl (fun e => by cases e) rfl) rfl ?_
    refine K_gyes rfl rfl ?_
    refine K_call c15 rfl rfl (few_spec a _ _ _ V1 (ha.mono hv1)) ?_
    rintro _ V2 hv2 rfl
    refine K_gyes rfl rfl ?_
    refine KV (R_notP rfl) rfl ?_
    refine KV (R_pickF rfl rfl) rfl ?_
    refine K_nil ?_
    refine Q_then ?_
    refine K_if rfl (fun h19 => ?_) (fun h19 => ?_)
    ·
      refine K_seq ?_
      refine K_region ?_
      refine K_call c7 rfl rfl (known_spec _ (hT.mono (by first | exact hv1 | exact hv1.trans hv2))) ?_
      rintro _ V9 hv9 rfl
      refine KV (R_assign rfl) rfl ?_
      refine K_nil ?_
      refine Q_then ?_
      refine K_ret ?_
      refine Q_then_ret ?_
      refine results_gen (rs := [.tmp 4]) (vs := [_]) rfl ⟨rfl, trivial⟩ ?_
      first | rfl | (refine congrArg Value.bool ?_; simp)
    ·
      have hfew := Decidable.not_not.1 h19
      obtain ⟨E, o, hc, hall⟩ := cons_ways a most hfew.2.1
      refine K_skip ?_
      refine Q_then ?_
      refine K_seq ?_
      refine K_region ?_
      refine KV (R_loadO ty42 0 rfl rfl rfl rfl (fun e => by cases e) rfl) rfl ?_
      refine K_call c17 rfl rfl (to_spec a _ _ _ V2 (ha.mono (hv1.trans hv2))) ?_
      rintro _ V3 hv3 ⟨x1, x2, x3, rfl, hx⟩
      refine KV (R_move rfl) rfl ?_
      refine K_call c16 rfl rfl (subsets_spec a most x1 x2 x3 V3 (hT.mono (hv1.trans (hv2.trans hv3))) hx) ?_
      rintro _ V4 hv4 ⟨w, rfl, hw⟩
      rw [hc] at hw ⊢
      refine KV (R_move rfl) rfl ?_
      refine KV (R_extract rfl rfl) rfl ?_
      refine KV (R_extract rfl rfl) rfl ?_
      refine KV (R_assign rfl) rfl ?_
      refine KV (R_assign rfl) rfl ?_
      refine K_nil ?_
      refine Q_then ?_
      refine K_seq ?_
      refine K_region ?_
      refine KV (R_loadO ty42 0 rfl rfl rfl rfl (fun e => by cases e) rfl) rfl ?_
      refine K_call c17 rfl rfl (to_spec a _ _ _ V4 (ha.mono (hv1.trans (hv2.trans (hv3.trans hv4))))) ?_
      rintro _ V5 hv5 ⟨y1, y2, y3, rfl, hy⟩
      refine KV (R_move rfl) rfl ?_
      refine K_call c18 rfl rfl (fromNTA_spec a most y1 y2 y3 V5 hy) ?_
      rintro _ V6 hv6 ⟨d1, d2, d3, rfl, hd⟩
      rw [hc] at hd ⊢
      have hw6 := hw.mono (hv5.trans hv6)
      have ha6 := ha.mono (hv1.trans (hv2.trans (hv3.trans (hv4.trans (hv5.trans hv6)))))
      dsimp only at hw hd hw6
      obtain ⟨wa, wcp, rfl⟩ := hw6.shape
      obtain ⟨ua1, uc1x, rfl⟩ := hd.r.shape
      obtain ⟨ua2, uc2x, rfl⟩ := hd.a.shape
      obtain ⟨ua3, uc3x, rfl⟩ := hd.t.shape
      refine KV (R_move rfl) rfl ?_
      refine KV (R_extract rfl rfl) rfl ?_
      refine KV (R_extract rfl rfl) rfl ?_
      refine KA (A_alloc z54) rfl fun b7 => ?_
      refine K_store ty54 0 rfl rfl rfl rfl rfl rfl ?_
      refine KV (R_assign rfl) rfl ?_
      refine K_nil ?_
      refine Q_then ?_
      refine K_seq ?_
      rcases hall with ⟨he, rfl, rfl⟩ | ⟨he, hm, rfl, rfl⟩ | ⟨he, hm, hlt, rfl, rfl⟩ | ⟨he, hm, hlt, rfl, st, rfl, hst1, hst2⟩
      ·
        dsimp only at hw hd hw6 ⊢
        have hsm := DtSmall.nil
        refine K_region ?_
        refine KV (R_move rfl) rfl ?_
        refine KV (R_len sl44 rfl) rfl ?_
        refine KV (R_cmp rfl rfl rfl) rfl ?_
        refine KV (R_move rfl) rfl ?_
        refine K_split ?_ ?_
        ·
          intro h38
          refine K_gyes rfl rfl ?_
          refine KV (R_loadO ty54 0 rfl rfl rfl rfl (fun e => by cases e) rfl) rfl ?_
          refine K_gyes rfl rfl ?_
          refine KV (R_build z54 pl54 rfl rfl) rfl ?_
          refine K_gyes rfl rfl ?_
          refine K_call c19 rfl rfl (dteq_spec _ ⟨[], [], []⟩ _ _ _ _ _ _ V6 hd (RepDt.nil _) hsm DtSmall.nil) ?_
          rintro _ V7 hv7 rfl
          refine KV (R_pickT rfl rfl) rfl ?_
          refine KV (R_assign rfl) rfl ?_
          refine K_nil ?_
          refine Q_then ?_
          refine K_seq ?_
          refine K_seq ?_
          refine K_region ?_
          refine KV (R_loadO ty42 1 rfl rfl rfl rfl (fun e => by cases e) rfl) rfl ?_
          refine K_call c20 rfl rfl (rcheck_spec a (.slice ra a.ranks.length rcp) (.slice ua a.rules.length ucp) (.slice fa a.final.length fcp) _ (by first | exact ha6 | exact ha6.mono hv7)) ?_
          rintro _ V8 hv8 rfl
          have ha8 : RepAu V8 a (.slice ra a.ranks.length rcp) (.slice ua a.rules.length ucp) (.slice fa a.final.length fcp) := by first | exact ha6.mono hv8 | exact ha6.mono (hv7.trans hv8)
          refine KV (R_assign rfl) rfl ?_
          refine K_nil ?_
          refine Q_then ?_
          refine K_seq ?_
          refine K_region ?_
          refine KV (R_move rfl) rfl ?_
          refine KV (R_cmp rfl rfl rfl) rfl ?_
          refine K_nil ?_
          refine Q_then ?_
          refine K_if rfl (fun h46 => ?_) (fun h46 => ?_)
          ·
            refine K_seq ?_
            refine K_region ?_
            refine KV (R_move rfl) rfl ?_
            refine KV (R_move rfl) rfl ?_
            refine KV (R_cmp rfl rfl rfl) rfl ?_
            refine KV (R_move rfl) rfl ?_
            refine K_split ?_ ?_
            ·
              intro h50
              refine K_gyes rfl rfl ?_
              refine KV (R_move rfl) rfl ?_
              refine K_gyes rfl rfl ?_
              refine KV (R_move rfl) rfl ?_
              refine K_gyes rfl rfl ?_
              refine KV (R_cmp rfl rfl rfl) rfl ?_
              refine KV (R_pickT rfl rfl) rfl ?_
              refine KV (R_move rfl) rfl ?_
              refine K_split ?_ ?_
              ·
                intro h55
                refine K_gyes rfl rfl ?_
                refine KV (R_move rfl) rfl ?_
                refine KV (R_pickT rfl rfl) rfl ?_
                refine KV (R_assign rfl) rfl ?_
                refine K_nil ?_
                refine Q_then ?_
                refine K_ret ?_
                refine Q_then_ret ?_
                refine results_gen (rs := [.tmp 4]) (vs := [_]) rfl ⟨rfl, trivial⟩ ?_
                first | rfl | (refine congrArg Value.bool ?_; simp)
              ·
                intro h55
                exact absurd rfl h55
            ·
              intro h50
              exact absurd rfl h50
          ·
            exact absurd he h46
        ·
          intro h38
          exact absurd rfl h38
      ·
        dsimp only at hw hd hw6 ⊢
        have hsm := DtSmall.nil
        refine K_region ?_
        refine KV (R_move rfl) rfl ?_
        refine KV (R_len sl44 rfl) rfl ?_
        refine KV (R_cmp rfl rfl rfl) rfl ?_
        refine KV (R_move rfl) rfl ?_
        refine K_split ?_ ?_
        ·
          intro h38
          refine K_gyes rfl rfl ?_
          refine KV (R_loadO ty54 0 rfl rfl rfl rfl (fun e => by cases e) rfl) rfl ?_
          refine K_gyes rfl rfl ?_
          refine KV (R_build z54 pl54 rfl rfl) rfl ?_
          refine K_gyes rfl rfl ?_
          refine K_call c19 rfl rfl (dteq_spec _ ⟨[], [], []⟩ _ _ _ _ _ _ V6 hd (RepDt.nil _) hsm DtSmall.nil) ?_
          rintro _ V7 hv7 rfl
          refine KV (R_pickT rfl rfl) rfl ?_
          refine KV (R_assign rfl) rfl ?_
          refine K_nil ?_
          refine Q_then ?_
          refine K_seq ?_
          refine K_seq ?_
          refine K_region ?_
          refine KV (R_loadO ty42 1 rfl rfl rfl rfl (fun e => by cases e) rfl) rfl ?_
          refine K_call c20 rfl rfl (rcheck_spec a (.slice ra a.ranks.length rcp) (.slice ua a.rules.length ucp) (.slice fa a.final.length fcp) _ (by first | exact ha6 | exact ha6.mono hv7)) ?_
          rintro _ V8 hv8 rfl
          have ha8 : RepAu V8 a (.slice ra a.ranks.length rcp) (.slice ua a.rules.length ucp) (.slice fa a.final.length fcp) := by first | exact ha6.mono hv8 | exact ha6.mono (hv7.trans hv8)
          refine KV (R_assign rfl) rfl ?_
          refine K_nil ?_
          refine Q_then ?_
          refine K_seq ?_
          refine K_region ?_
          refine KV (R_move rfl) rfl ?_
          refine KV (R_cmp rfl rfl rfl) rfl ?_
          refine K_nil ?_
          refine Q_then ?_
          refine K_if rfl (fun h46 => ?_) (fun h46 => ?_)
          ·
            exact absurd he h46
          ·
            refine K_skip ?_
            refine Q_then ?_
            refine K_seq ?_
            refine K_seq ?_
            refine K_region ?_
            refine KV (R_move rfl) rfl ?_
            refine KV (R_cmp rfl rfl rfl) rfl ?_
            refine K_nil ?_
            refine Q_then ?_
            refine K_if rfl (fun h59 => ?_) (fun h59 => ?_)
            ·
              refine K_seq ?_
              refine K_region ?_
              refine KV (R_move rfl) rfl ?_
              refine KV (R_cmp rfl rfl rfl) rfl ?_
              refine KV (R_move rfl) rfl ?_
              refine K_split ?_ ?_
              ·
                intro h62
                refine K_gyes rfl rfl ?_
                refine KV (R_move rfl) rfl ?_
                refine K_gyes rfl rfl ?_
                refine KV (R_move rfl) rfl ?_
                refine K_gyes rfl rfl ?_
                refine KV (R_cmp rfl rfl rfl) rfl ?_
                refine KV (R_pickT rfl rfl) rfl ?_
                refine KV (R_move rfl) rfl ?_
                refine K_split ?_ ?_
                ·
                  intro h67
                  refine K_gyes rfl rfl ?_
                  refine KV (R_move rfl) rfl ?_
                  refine KV (R_pickT rfl rfl) rfl ?_
                  refine KV (R_assign rfl) rfl ?_
                  refine K_nil ?_
                  refine Q_then ?_
                  refine K_ret ?_
                  refine Q_then_ret ?_
                  refine results_gen (rs := [.tmp 4]) (vs := [_]) rfl ⟨rfl, trivial⟩ ?_
                  first | rfl | (refine congrArg Value.bool ?_; simp)
                ·
                  intro h67
                  exact absurd rfl h67
              ·
                intro h62
                exact absurd rfl h62
            ·
              exact absurd hm h59
        ·
          intro h38
          exact absurd rfl h38
      ·
        dsimp only at hw hd hw6 ⊢
        have hsm := DtSmall.nil
        refine K_region ?_
        refine KV (R_move rfl) rfl ?_
        refine KV (R_len sl44 rfl) rfl ?_
        refine KV (R_cmp rfl rfl rfl) rfl ?_
        refine KV (R_move rfl) rfl ?_
        refine K_split ?_ ?_
        ·
          intro h38
          refine K_gyes rfl rfl ?_
          refine KV (R_loadO ty54 0 rfl rfl rfl rfl (fun e => by cases e) rfl) rfl ?_
          refine K_gyes rfl rfl ?_
          refine KV (R_build z54 pl54 rfl rfl) rfl ?_
          refine K_gyes rfl rfl ?_
          refine K_call c19 rfl rfl (dteq_spec _ ⟨[], [], []⟩ _ _ _ _ _ _ V6 hd (RepDt.nil _) hsm DtSmall.nil) ?_
          rintro _ V7 hv7 rfl
          refine KV (R_pickT rfl rfl) rfl ?_
          refine KV (R_assign rfl) rfl ?_
          refine K_nil ?_
          refine Q_then ?_
          refine K_seq ?_
          refine K_seq ?_
          refine K_region ?_
          refine KV (R_loadO ty42 1 rfl rfl rfl rfl (fun e => by cases e) rfl) rfl ?_
          refine K_call c20 rfl rfl (rcheck_spec a (.slice ra a.ranks.length rcp) (.slice ua a.rules.length ucp) (.slice fa a.final.length fcp) _ (by first | exact ha6 | exact ha6.mono hv7)) ?_
          rintro _ V8 hv8 rfl
          have ha8 : RepAu V8 a (.slice ra a.ranks.length rcp) (.slice ua a.rules.length ucp) (.slice fa a.final.length fcp) := by first | exact ha6.mono hv8 | exact ha6.mono (hv7.trans hv8)
          refine KV (R_assign rfl) rfl ?_
          refine K_nil ?_
          refine Q_then ?_
          refine K_seq ?_
          refine K_region ?_
          refine KV (R_move rfl) rfl ?_
          refine KV (R_cmp rfl rfl rfl) rfl ?_
          refine K_nil ?_
          refine Q_then ?_
          refine K_if rfl (fun h46 => ?_) (fun h46 => ?_)
          ·
            exact absurd he h46
          ·
            refine K_skip ?_
            refine Q_then ?_
            refine K_seq ?_
            refine K_seq ?_
            refine K_region ?_
            refine KV (R_move rfl) rfl ?_
            refine KV (R_cmp rfl rfl rfl) rfl ?_
            refine K_nil ?_
            refine Q_then ?_
            refine K_if rfl (fun h59 => ?_) (fun h59 => ?_)
            ·
              exact absurd h59 hm
            ·
              refine K_skip ?_
              refine Q_then ?_
              refine K_seq ?_
              refine K_region ?_
              refine KV (R_loadO ty42 1 rfl rfl rfl rfl (fun e => by cases e) rfl) rfl ?_
              refine K_call c21 rfl rfl (rsubs_spec a (AuOk.of he) hfew.2.1 _ _ _ V8 ha8) ?_
              rintro rv V9 hv9 ⟨hrs, hrok⟩
              obtain ⟨rra, rrcp, rfl⟩ := hrs.shape
              have hr64 := hrok.len hfew.2.1
              refine KV (R_assign rfl) rfl ?_
              refine K_nil ?_
              refine Q_then ?_
              refine K_seq ?_
              refine K_seq ?_
              refine K_region ?_
              refine KV (R_move rfl) rfl ?_
              refine KV (R_len sl44 rfl) rfl ?_
              refine KV (R_move rfl) rfl ?_
              refine KV (R_cmp rfl rfl rfl) rfl ?_
              refine K_nil ?_
              refine Q_then ?_
              refine K_if rfl (fun h75 => ?_) (fun h75 => ?_)
              ·
                refine K_seq ?_
                refine K_region ?_
                refine KV (R_move rfl) rfl ?_
                refine KV (R_cmp rfl rfl rfl) rfl ?_
                refine KV (R_move rfl) rfl ?_
                refine K_split ?_ ?_
                ·
                  intro h78
                  refine K_gyes rfl rfl ?_
                  refine KV (R_move rfl) rfl ?_
                  refine K_gyes rfl rfl ?_
                  refine KV (R_move rfl) rfl ?_
                  refine K_gyes rfl rfl ?_
                  refine KV (R_cmp rfl rfl rfl) rfl ?_
                  refine KV (R_pickT rfl rfl) rfl ?_
                  refine KV (R_move rfl) rfl ?_
                  refine K_split ?_ ?_
                  ·
                    intro h83
                    refine K_gyes rfl rfl ?_
                    refine KV (R_move rfl) rfl ?_
                    refine KV (R_pickT rfl rfl) rfl ?_
                    refine KV (R_assign rfl) rfl ?_
                    refine K_nil ?_
                    refine Q_then ?_
                    refine K_ret ?_
                    refine Q_then_ret ?_
                    refine results_gen (rs := [.tmp 4]) (vs := [_]) rfl ⟨rfl, trivial⟩ ?_
                    first | rfl | (refine congrArg Value.bool ?_; simp)
                  ·
                    intro h83
                    exact absurd rfl h83
                ·
                  intro h78
                  exact absurd rfl h78
              ·
                exact absurd hlt h75
        ·
          intro h38
          exact absurd rfl h38
      ·
        dsimp only at hw hd hw6 ⊢
        rw [hst1] at hw6 ⊢
        rw [hst2] at hd ⊢
        have hsm := refFrom_small he hfew.2.1
        refine K_region ?_
        refine KV (R_move rfl) rfl ?_
        refine KV (R_len sl44 rfl) rfl ?_
        refine KV (R_cmp rfl rfl rfl) rfl ?_
        refine KV (R_move rfl) rfl ?_
        refine K_split ?_ ?_
        ·
          intro h38
          refine K_gyes rfl rfl ?_
          refine KV (R_loadO ty54 0 rfl rfl rfl rfl (fun e => by cases e) rfl) rfl ?_
          refine K_gyes rfl rfl ?_
          refine KV (R_build z54 pl54 rfl rfl) rfl ?_
          refine K_gyes rfl rfl ?_
          refine K_call c19 rfl rfl (dteq_spec _ ⟨[], [], []⟩ _ _ _ _ _ _ V6 hd (RepDt.nil _) hsm DtSmall.nil) ?_
          rintro _ V7 hv7 rfl
          refine KV (R_pickT rfl rfl) rfl ?_
          refine KV (R_assign rfl) rfl ?_
          refine K_nil ?_
          refine Q_then ?_
          refine K_seq ?_
          refine K_seq ?_
          refine K_region ?_
          refine KV (R_loadO ty42 1 rfl rfl rfl rfl (fun e => by cases e) rfl) rfl ?_
          refine K_call c20 rfl rfl (rcheck_spec a (.slice ra a.ranks.length rcp) (.slice ua a.rules.length ucp) (.slice fa a.final.length fcp) _ (by first | exact ha6 | exact ha6.mono hv7)) ?_
          rintro _ V8 hv8 rfl
          have ha8 : RepAu V8 a (.slice ra a.ranks.length rcp) (.slice ua a.rules.length ucp) (.slice fa a.final.length fcp) := by first | exact ha6.mono hv8 | exact ha6.mono (hv7.trans hv8)
          refine KV (R_assign rfl) rfl ?_
          refine K_nil ?_
          refine Q_then ?_
          refine K_seq ?_
          refine K_region ?_
          refine KV (R_move rfl) rfl ?_
          refine KV (R_cmp rfl rfl rfl) rfl ?_
          refine K_nil ?_
          refine Q_then ?_
          refine K_if rfl (fun h46 => ?_) (fun h46 => ?_)
          ·
            exact absurd he h46
          ·
            refine K_skip ?_
            refine Q_then ?_
            refine K_seq ?_
            refine K_seq ?_
            refine K_region ?_
            refine KV (R_move rfl) rfl ?_
            refine KV (R_cmp rfl rfl rfl) rfl ?_
            refine K_nil ?_
            refine Q_then ?_
            refine K_if rfl (fun h59 => ?_) (fun h59 => ?_)
            ·
              exact absurd h59 hm
            ·
              refine K_skip ?_
              refine Q_then ?_
              refine K_seq ?_
              refine K_region ?_
              refine KV (R_loadO ty42 1 rfl rfl rfl rfl (fun e => by cases e) rfl) rfl ?_
              refine K_call c21 rfl rfl (rsubs_spec a (AuOk.of he) hfew.2.1 _ _ _ V8 ha8) ?_
              rintro rv V9 hv9 ⟨hrs, hrok⟩
              obtain ⟨rra, rrcp, rfl⟩ := hrs.shape
              have hr64 := hrok.len hfew.2.1
              refine KV (R_assign rfl) rfl ?_
              refine K_nil ?_
              refine Q_then ?_
              refine K_seq ?_
              refine K_seq ?_
              refine K_region ?_
              refine KV (R_move rfl) rfl ?_
              refine KV (R_len sl44 rfl) rfl ?_
              refine KV (R_move rfl) rfl ?_
              refine KV (R_cmp rfl rfl rfl) rfl ?_
              refine K_nil ?_
              refine Q_then ?_
              refine K_if rfl (fun h75 => ?_) (fun h75 => ?_)
              ·
                exact absurd h75 hlt
              ·
                refine K_skip ?_
                refine Q_then ?_
                refine K_seq ?_
                refine K_seq ?_
                refine K_region ?_
                refine KV (R_move rfl) rfl ?_
                refine KV (R_cmp rfl rfl rfl) rfl ?_
                refine KV (R_move rfl) rfl ?_
                refine K_split ?_ ?_
                ·
                  intro h88
                  exact absurd rfl h88
                ·
                  intro h88
                  refine K_gyes rfl rfl ?_
                  refine KV (R_move rfl) rfl ?_
                  refine K_gyes rfl rfl ?_
                  refine KV (R_cmp rfl rfl rfl) rfl ?_
                  refine KV (R_pickF rfl rfl) rfl ?_
                  refine KV (R_move rfl) rfl ?_
                  refine K_split ?_ ?_
                  ·
                    intro h92
                    exact absurd rfl h92
                  ·
                    intro h92
                    refine K_gyes rfl rfl ?_
                    refine KV (R_move rfl) rfl ?_
                    refine K_gyes rfl rfl ?_
                    refine KV (R_len sl44 rfl) rfl ?_
                    refine K_gyes rfl rfl ?_
                    refine KV (R_move rfl) rfl ?_
                    refine K_gyes rfl rfl ?_
                    refine KV (R_len sl44 rfl) rfl ?_
                    refine K_gyes rfl rfl ?_
                    refine KV (R_cmp rfl rfl rfl) rfl ?_
                    refine KV (R_pickF rfl rfl) rfl ?_
                    refine K_nil ?_
                    refine Q_then ?_
                    refine K_if rfl (fun h98 => ?_) (fun h98 => ?_)
                    ·
                      exact absurd rfl h98
                    ·
                      have hw9 := hw6.mono (show VLe V6 V9 by first | exact hv8.trans hv9 | exact hv7.trans (hv8.trans hv9))
                      have hd9 := hd.mono (show VLe V6 V9 by first | exact hv8.trans hv9 | exact hv7.trans (hv8.trans hv9))
                      refine K_skip ?_
                      refine Q_then ?_
                      refine K_seq ?_
                      refine K_seq ?_
                      refine K_region ?_
                      refine KV (R_assign rfl) rfl ?_
                      refine K_nil ?_
                      refine Q_then ?_
                      refine K_block ?_
                      refine K_loopD (G := Nat × View) [4, 12, 99, 100, 101, 102, 103, 104, 105, 106, 107, 108, 109, 110, 111, 112, 113, 114] (fun g => [(12, .int .i64 (g.1 : Int))]) (fun hl g => hl) (fun g => g.2) (fun g => (g.1 ≤ (refSubs a).length) ∧ (VLe V9 g.2)) (fun g => (refSubs a).length - g.1) (0, V9) ⟨Nat.zero_le _, VLe.refl _⟩ ⟨rfl, trivial⟩ (by simp only [args0, Nat.reduceAdd, del, memN, beqN, Nat.reduceBEq, cond_true, cond_false]; rfl) rfl rfl ?_
                      rintro ⟨i, V⟩ ⟨hi, hV⟩
                      dsimp only at hi hV
                      dsimp only [List.set, List.cons_append, List.nil_append]
                      refine K_seq ?_
                      refine K_seq ?_
                      refine K_region ?_
                      refine KV (R_move rfl) rfl ?_
                      refine KV (R_move rfl) rfl ?_
                      refine KV (R_len sl44 rfl) rfl ?_
                      refine KV (R_cmp rfl rfl rfl) rfl ?_
                      refine K_nil ?_
                      refine Q_then ?_
                      refine K_if rfl (fun h102 => ?_) (fun h102 => ?_)
                      ·
                        have hi2 : i < (refSubs a).length := by omega
                        obtain ⟨lb, lo, ea, ecp, hle, hta, hs1⟩ := (hw9.mono hV).get hi2
                        cases hle
                        obtain ⟨lb2, lo2, ea2, ecp2, hle2, htb, hs2⟩ := (hrs.mono hV).get hi2
                        cases hle2
                        refine K_skip ?_
                        refine Q_then ?_
                        refine K_seq ?_
                        refine K_block ?_
                        refine K_seq ?_
                        refine K_regionD (fin := false) (R := [0, 1, 2, 3, 4, 5, 6, 7, 8, 9]) (by kernel_rfl) mixed (.cons_cons _ (.cons_cons _ (List.nil_sublist _))) ?_
                        refine D_val rfl rfl rfl (R_move rfl) ?_
                        refine D_val rfl rfl rfl (R_move rfl) ?_
                        refine D_val rfl rfl rfl (R_indexN sl44 ty25 rfl rfl (by omega)) ?_
                        refine D_val rfl rfl rfl (R_loadH ty25 rfl (hta) rfl (fun _ => rfl) rfl) ?_
                        refine D_val rfl rfl rfl (R_move rfl) ?_
                        refine D_val rfl rfl rfl (R_move rfl) ?_
                        refine D_val rfl rfl rfl (R_indexN sl44 ty25 rfl rfl (by omega)) ?_
                        refine D_val rfl rfl rfl (R_loadH ty25 rfl (htb) rfl (fun _ => rfl) rfl) ?_
                        refine D_call rfl rfl c22 rfl ⟨⟨0, rfl⟩, ⟨1, rfl⟩, trivial⟩ (same_spec (refSubs a)[i] (refSubs a)[i] _ _ V hs1 hs2 (Nat.le_trans (hrok.item (by omega) _ (List.getElem_mem hi2)) (by decide)) (Nat.le_trans (hrok.item (by omega) _ (List.getElem_mem hi2)) (by decide))) ?_
                        rintro _ U hU rfl
                        refine D_val rfl rfl rfl (R_notP rfl) ?_
                        refine D_done ?_
                        refine Q_then ?_
                        refine K_if rfl (fun h114 => ?_) (fun h114 => ?_)
                        ·
                          exact absurd rfl h114
                        ·
                          refine K_skip ?_
                          refine Q_block ?_
                          refine Q_then ?_
                          refine K_region ?_
                          refine KV (R_move rfl) rfl ?_
                          refine KV (R_add rfl rfl (by omega)) rfl ?_
                          refine KV (R_assign rfl) rfl ?_
                          refine K_nil ?_
                          refine Q_nextD (i + 1, U) ⟨hi2, hV.trans hU⟩ (by (try dsimp only); omega) ⟨rfl, trivial⟩ rfl rfl rfl
                      ·
                        have hi2 : i = (refSubs a).length := by omega
                        refine K_exit ?_
                        refine Q_then_exit ?_
                        refine Q_then_exit ?_
                        refine Q_block_exit ?_
                        refine Q_then ?_
                        refine K_seq ?_
                        refine K_regionD (fin := false) (R := [0, 2, 1, 3, 4, 5]) (by kernel_rfl) mixed (.cons_cons _ (.cons_cons _ (List.nil_sublist _))) ?_
                        refine D_val rfl rfl rfl (R_loadO ty54 0 rfl rfl rfl rfl (fun e => by cases e) rfl) ?_
                        refine D_val rfl rfl rfl (R_loadO ty42 1 rfl rfl rfl rfl (fun e => by cases e) rfl) ?_
                        refine D_call rfl rfl c24 rfl ⟨⟨0, rfl⟩, ⟨1, rfl⟩, trivial⟩ (l33to_spec (refFrom a) _ _ _ V (hd9.mono hV)) ?_
                        rintro _ U1 hU1 rfl
                        refine D_call rfl rfl c25 rfl ⟨⟨0, rfl⟩, ⟨1, rfl⟩, trivial⟩ (rfrom_spec a (AuOk.of he) hfew.2.1 _ _ _ U1 (ha8.mono (hv9.trans (hV.trans hU1)))) ?_
                        rintro _ U2 hU2 ⟨z1, z2, z3, rfl, hz⟩
                        refine D_call rfl rfl c23 rfl ⟨⟨0, rfl⟩, ⟨1, rfl⟩, trivial⟩ (rsame_spec (refFrom a) (refFrom a) _ _ _ _ _ _ U2 (hd9.mono (hV.trans (hU1.trans hU2))) hz (refFrom_small he hfew.2.1) (refFrom_small he hfew.2.1)) ?_
                        rintro _ U3 hU3 rfl
                        refine D_val rfl rfl rfl (R_assign rfl) ?_
                        refine D_done ?_
                        refine Q_then ?_
                        refine K_ret ?_
                        refine results_gen (rs := [.tmp 4]) (vs := [_]) rfl ⟨rfl, trivial⟩ ?_
                        first | rfl | (refine congrArg Value.bool ?_; simp)
        ·
          intro h38
          refine K_gno rfl rfl rfl rfl ?_
          refine K_gno rfl rfl rfl rfl ?_
          refine K_gno rfl rfl rfl rfl ?_
          refine KV (R_pickF rfl rfl) rfl ?_
          refine KV (R_assign rfl) rfl ?_
          refine K_nil ?_
          refine Q_then ?_
          refine K_seq ?_
          refine K_seq ?_
          refine K_region ?_
          refine KV (R_loadO ty42 1 rfl rfl rfl rfl (fun e => by cases e) rfl) rfl ?_
          refine K_call c20 rfl rfl (rcheck_spec a (.slice ra a.ranks.length rcp) (.slice ua a.rules.length ucp) (.slice fa a.final.length fcp) _ (by first | exact ha6 | exact ha6.mono hv7)) ?_
          rintro _ V8 hv8 rfl
          have ha8 : RepAu V8 a (.slice ra a.ranks.length rcp) (.slice ua a.rules.length ucp) (.slice fa a.final.length fcp) := by first | exact ha6.mono hv8 | exact ha6.mono (hv7.trans hv8)
          refine KV (R_assign rfl) rfl ?_
          refine K_nil ?_
          refine Q_then ?_
          refine K_seq ?_
          refine K_region ?_
          refine KV (R_move rfl) rfl ?_
          refine KV (R_cmp rfl rfl rfl) rfl ?_
          refine K_nil ?_
          refine Q_then ?_
          refine K_if rfl (fun h46 => ?_) (fun h46 => ?_)
          ·
            exact absurd he h46
          ·
            refine K_skip ?_
            refine Q_then ?_
            refine K_seq ?_
            refine K_seq ?_
            refine K_region ?_
            refine KV (R_move rfl) rfl ?_
            refine KV (R_cmp rfl rfl rfl) rfl ?_
            refine K_nil ?_
            refine Q_then ?_
            refine K_if rfl (fun h59 => ?_) (fun h59 => ?_)
            ·
              exact absurd h59 hm
            ·
              refine K_skip ?_
              refine Q_then ?_
              refine K_seq ?_
              refine K_region ?_
              refine KV (R_loadO ty42 1 rfl rfl rfl rfl (fun e => by cases e) rfl) rfl ?_
              refine K_call c21 rfl rfl (rsubs_spec a (AuOk.of he) hfew.2.1 _ _ _ V8 ha8) ?_
              rintro rv V9 hv9 ⟨hrs, hrok⟩
              obtain ⟨rra, rrcp, rfl⟩ := hrs.shape
              have hr64 := hrok.len hfew.2.1
              refine KV (R_assign rfl) rfl ?_
              refine K_nil ?_
              refine Q_then ?_
              refine K_seq ?_
              refine K_seq ?_
              refine K_region ?_
              refine KV (R_move rfl) rfl ?_
              refine KV (R_len sl44 rfl) rfl ?_
              refine KV (R_move rfl) rfl ?_
              refine KV (R_cmp rfl rfl rfl) rfl ?_
              refine K_nil ?_
              refine Q_then ?_
              refine K_if rfl (fun h75 => ?_) (fun h75 => ?_)
              ·
                exact absurd h75 hlt
              ·
                refine K_skip ?_
                refine Q_then ?_
                refine K_seq ?_
                refine K_seq ?_
                refine K_region ?_
                refine KV (R_move rfl) rfl ?_
                refine KV (R_cmp rfl rfl rfl) rfl ?_
                refine KV (R_move rfl) rfl ?_
                refine K_split ?_ ?_
                ·
                  intro h88
                  exact absurd rfl h88
                ·
                  intro h88
                  refine K_gyes rfl rfl ?_
                  refine KV (R_move rfl) rfl ?_
                  refine K_gyes rfl rfl ?_
                  refine KV (R_cmp rfl rfl rfl) rfl ?_
                  refine KV (R_pickF rfl rfl) rfl ?_
                  refine KV (R_move rfl) rfl ?_
                  refine K_split ?_ ?_
                  ·
                    intro h92
                    exact absurd rfl h92
                  ·
                    intro h92
                    refine K_gyes rfl rfl ?_
                    refine KV (R_move rfl) rfl ?_
                    refine K_gyes rfl rfl ?_
                    refine KV (R_len sl44 rfl) rfl ?_
                    refine K_gyes rfl rfl ?_
                    refine KV (R_move rfl) rfl ?_
                    refine K_gyes rfl rfl ?_
                    refine KV (R_len sl44 rfl) rfl ?_
                    refine K_gyes rfl rfl ?_
                    refine KV (R_cmp rfl rfl rfl) rfl ?_
                    refine KV (R_pickF rfl rfl) rfl ?_
                    refine K_nil ?_
                    refine Q_then ?_
                    refine K_if rfl (fun h98 => ?_) (fun h98 => ?_)
                    ·
                      exact absurd rfl h98
                    ·
                      have hw9 := hw6.mono (show VLe V6 V9 by first | exact hv8.trans hv9 | exact hv7.trans (hv8.trans hv9))
                      have hd9 := hd.mono (show VLe V6 V9 by first | exact hv8.trans hv9 | exact hv7.trans (hv8.trans hv9))
                      refine K_skip ?_
                      refine Q_then ?_
                      refine K_seq ?_
                      refine K_seq ?_
                      refine K_region ?_
                      refine KV (R_assign rfl) rfl ?_
                      refine K_nil ?_
                      refine Q_then ?_
                      refine K_block ?_
                      refine K_loopD (G := Nat × View) [4, 12, 99, 100, 101, 102, 103, 104, 105, 106, 107, 108, 109, 110, 111, 112, 113, 114] (fun g => [(12, .int .i64 (g.1 : Int))]) (fun hl g => hl) (fun g => g.2) (fun g => (g.1 ≤ (refSubs a).length) ∧ (VLe V9 g.2)) (fun g => (refSubs a).length - g.1) (0, V9) ⟨Nat.zero_le _, VLe.refl _⟩ ⟨rfl, trivial⟩ (by simp only [args0, Nat.reduceAdd, del, memN, beqN, Nat.reduceBEq, cond_true, cond_false]; rfl) rfl rfl ?_
                      rintro ⟨i, V⟩ ⟨hi, hV⟩
                      dsimp only at hi hV
                      dsimp only [List.set, List.cons_append, List.nil_append]
                      refine K_seq ?_
                      refine K_seq ?_
                      refine K_region ?_
                      refine KV (R_move rfl) rfl ?_
                      refine KV (R_move rfl) rfl ?_
                      refine KV (R_len sl44 rfl) rfl ?_
                      refine KV (R_cmp rfl rfl rfl) rfl ?_
                      refine K_nil ?_
                      refine Q_then ?_
                      refine K_if rfl (fun h102 => ?_) (fun h102 => ?_)
                      ·
                        have hi2 : i < (refSubs a).length := by omega
                        obtain ⟨lb, lo, ea, ecp, hle, hta, hs1⟩ := (hw9.mono hV).get hi2
                        cases hle
                        obtain ⟨lb2, lo2, ea2, ecp2, hle2, htb, hs2⟩ := (hrs.mono hV).get hi2
                        cases hle2
                        refine K_skip ?_
                        refine Q_then ?_
                        refine K_seq ?_
                        refine K_block ?_
                        refine K_seq ?_
                        refine K_regionD (fin := false) (R := [0, 1, 2, 3, 4, 5, 6, 7, 8, 9]) (by kernel_rfl) mixed (.cons_cons _ (.cons_cons _ (List.nil_sublist _))) ?_
                        refine D_val rfl rfl rfl (R_move rfl) ?_
                        refine D_val rfl rfl rfl (R_move rfl) ?_
                        refine D_val rfl rfl rfl (R_indexN sl44 ty25 rfl rfl (by omega)) ?_
                        refine D_val rfl rfl rfl (R_loadH ty25 rfl (hta) rfl (fun _ => rfl) rfl) ?_
                        refine D_val rfl rfl rfl (R_move rfl) ?_
                        refine D_val rfl rfl rfl (R_move rfl) ?_
                        refine D_val rfl rfl rfl (R_indexN sl44 ty25 rfl rfl (by omega)) ?_
                        refine D_val rfl rfl rfl (R_loadH ty25 rfl (htb) rfl (fun _ => rfl) rfl) ?_
                        refine D_call rfl rfl c22 rfl ⟨⟨0, rfl⟩, ⟨1, rfl⟩, trivial⟩ (same_spec (refSubs a)[i] (refSubs a)[i] _ _ V hs1 hs2 (Nat.le_trans (hrok.item (by omega) _ (List.getElem_mem hi2)) (by decide)) (Nat.le_trans (hrok.item (by omega) _ (List.getElem_mem hi2)) (by decide))) ?_
                        rintro _ U hU rfl
                        refine D_val rfl rfl rfl (R_notP rfl) ?_
                        refine D_done ?_
                        refine Q_then ?_
                        refine K_if rfl (fun h114 => ?_) (fun h114 => ?_)
                        ·
                          exact absurd rfl h114
                        ·
                          refine K_skip ?_
                          refine Q_block ?_
                          refine Q_then ?_
                          refine K_region ?_
                          refine KV (R_move rfl) rfl ?_
                          refine KV (R_add rfl rfl (by omega)) rfl ?_
                          refine KV (R_assign rfl) rfl ?_
                          refine K_nil ?_
                          refine Q_nextD (i + 1, U) ⟨hi2, hV.trans hU⟩ (by (try dsimp only); omega) ⟨rfl, trivial⟩ rfl rfl rfl
                      ·
                        have hi2 : i = (refSubs a).length := by omega
                        refine K_exit ?_
                        refine Q_then_exit ?_
                        refine Q_then_exit ?_
                        refine Q_block_exit ?_
                        refine Q_then ?_
                        refine K_seq ?_
                        refine K_regionD (fin := false) (R := [0, 2, 1, 3, 4, 5]) (by kernel_rfl) mixed (.cons_cons _ (.cons_cons _ (List.nil_sublist _))) ?_
                        refine D_val rfl rfl rfl (R_loadO ty54 0 rfl rfl rfl rfl (fun e => by cases e) rfl) ?_
                        refine D_val rfl rfl rfl (R_loadO ty42 1 rfl rfl rfl rfl (fun e => by cases e) rfl) ?_
                        refine D_call rfl rfl c24 rfl ⟨⟨0, rfl⟩, ⟨1, rfl⟩, trivial⟩ (l33to_spec (refFrom a) _ _ _ V (hd9.mono hV)) ?_
                        rintro _ U1 hU1 rfl
                        refine D_call rfl rfl c25 rfl ⟨⟨0, rfl⟩, ⟨1, rfl⟩, trivial⟩ (rfrom_spec a (AuOk.of he) hfew.2.1 _ _ _ U1 (ha8.mono (hv9.trans (hV.trans hU1)))) ?_
                        rintro _ U2 hU2 ⟨z1, z2, z3, rfl, hz⟩
                        refine D_call rfl rfl c23 rfl ⟨⟨0, rfl⟩, ⟨1, rfl⟩, trivial⟩ (rsame_spec (refFrom a) (refFrom a) _ _ _ _ _ _ U2 (hd9.mono (hV.trans (hU1.trans hU2))) hz (refFrom_small he hfew.2.1) (refFrom_small he hfew.2.1)) ?_
                        rintro _ U3 hU3 rfl
                        refine D_val rfl rfl rfl (R_assign rfl) ?_
                        refine D_done ?_
                        refine Q_then ?_
                        refine K_ret ?_
                        refine results_gen (rs := [.tmp 4]) (vs := [_]) rfl ⟨rfl, trivial⟩ ?_
                        first | rfl | (refine congrArg Value.bool ?_; simp)
end Go.Proofs.X
