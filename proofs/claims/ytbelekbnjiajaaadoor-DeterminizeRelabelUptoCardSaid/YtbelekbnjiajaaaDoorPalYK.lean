/-
  Part of the proof: contracts of the functions that the statements reach. Own work. No statement of the seat is proved here.
-/
import Derived.Test.YtbelekbnjiajaaaDoorPalYJ
import Derived.Test.YtbelekbnjiajaaaDoorProg
namespace Go.Proofs.X
open Go Pal Go.Proofs
attribute [local irreducible] Pal.KO Pal.KC Pal.KQ Pal.KD
theorem z0 : zeroOk Tryd.prog 0 (.tuple #[]) := .of (by kernel_rfl)
theorem z1 : zeroOk Tryd.prog 1 (.nilFunc) := .of (by kernel_rfl)
theorem z2 : zeroOk Tryd.prog 2 (.int .i64 0) := .of (by kernel_rfl)
theorem c7 : callable Tryd.prog 7 = true := by kernel_rfl
theorem relabel_law (t : Tr) (to : List Int) (tv : Value) (H : View) (cs : List Value) (hT : Tab H) (hr : RepT H t cs) (hto : SI H tv to) (hb : t.size ≤ 1073741824) (hl : to.length ≤ 1099511627776) : Sat Tryd.prog 3 #[.agg cs.toArray, tv] H (fun v _ => v = .bool true) := by
  obtain ⟨x0, x1, x2, x3, rfl⟩ := hr.shape
  obtain ⟨ta, tc, rfl⟩ := hto.shape
  have hpos := t.size_pos
  refine enterO (n := 58) (args := [.agg #[.int .i64 x0, .slice x1 x2 x3], .slice ta to.length tc]) Tryd.func3 rfl rfl rfl fun w0 => ?_
  refine K_seq ?_
  refine K_region ?_
  refine KA (A_box rfl) rfl fun b2 => ?_
  refine KV (R_assign rfl) rfl ?_
  refine K_nil ?_
  refine Q_then ?_
  refine K_seq ?_
  refine K_seq ?_
  refine K_region ?_
  refine K_call c7 rfl rfl (known_spec H hT) ?_
  rintro _ V1 hv1 rfl
  refine KV (R_not rfl) rfl ?_
  refine KV (R_move rfl) rfl ?_
  refine K_splitB ?_ ?_
  ·
    intro h11
    cases h11
  ·
    intro h11
    refine K_gyes rfl rfl ?_
    refine KV (R_loadO ty24 0 rfl rfl rfl rfl (fun e => by cases e) rfl) rfl ?_
    refine K_gyes rfl rfl ?_
    refine K_call c8 rfl rfl (size_spec t.size t V1 _ (Nat.le_refl _) (by omega) (hr.mono hv1)) ?_
    rintro _ V2 hv2 rfl
    refine K_gyes rfl rfl ?_
    refine KV (R_cmp rfl rfl rfl) rfl ?_
    refine KV (R_pickF rfl rfl) rfl ?_
    refine KV (R_move rfl) rfl ?_
    refine K_split ?_ ?_
    ·
      intro h16
      refine K_gno rfl rfl rfl rfl ?_
      refine K_gno rfl rfl rfl rfl ?_
      refine K_gno rfl rfl rfl rfl ?_
      refine KV (R_pickT rfl rfl) rfl ?_
      refine KV (R_move rfl) rfl ?_
      refine K_gno rfl rfl rfl rfl ?_
      refine K_gno rfl rfl rfl rfl ?_
      refine K_gno rfl rfl rfl rfl ?_
      refine KV (R_pickT rfl rfl) rfl ?_
      refine K_nil ?_
      refine Q_then ?_
      refine K_ifT rfl ?_
      refine K_seq ?_
      refine K_region ?_
      refine K_call c7 rfl rfl (known_spec _ (hT.mono (by first | exact hv1.trans hv2 | exact hv1.trans (hv2.trans hv3)))) ?_
      rintro _ V9 hv9 rfl
      refine KV (R_assign rfl) rfl ?_
      refine K_nil ?_
      refine Q_then ?_
      refine K_ret ?_
      refine Q_then_ret ?_
      refine results_gen (rs := [.tmp 4]) (vs := [_]) rfl ⟨rfl, trivial⟩ ?_
      first | rfl | (rw [Tr.cmp_self]; rfl) | (simp only [tupV]; rw [Tr.cmp_self]; rfl)
    ·
      intro h16
      refine K_gyes rfl rfl ?_
      refine KV (R_loadO ty24 0 rfl rfl rfl rfl (fun e => by cases e) rfl) rfl ?_
      refine K_gyes rfl rfl ?_
      refine K_call c9 rfl rfl (deep_spec t.size t V2 _ (Nat.le_refl _) (by omega) (hr.mono (hv1.trans hv2))) ?_
      rintro _ V3 hv3 rfl
      refine K_gyes rfl rfl ?_
      refine KV (R_cmp rfl rfl rfl) rfl ?_
      refine KV (R_pickF rfl rfl) rfl ?_
      refine KV (R_move rfl) rfl ?_
      refine K_split ?_ ?_
      ·
        intro h21
        refine K_gno rfl rfl rfl rfl ?_
        refine K_gno rfl rfl rfl rfl ?_
        refine K_gno rfl rfl rfl rfl ?_
        refine KV (R_pickT rfl rfl) rfl ?_
        refine K_nil ?_
        refine Q_then ?_
        refine K_ifT rfl ?_
        refine K_seq ?_
        refine K_region ?_
        refine K_call c7 rfl rfl (known_spec _ (hT.mono (by first | exact hv1.trans hv2 | exact hv1.trans (hv2.trans hv3)))) ?_
        rintro _ V9 hv9 rfl
        refine KV (R_assign rfl) rfl ?_
        refine K_nil ?_
        refine Q_then ?_
        refine K_ret ?_
        refine Q_then_ret ?_
        refine results_gen (rs := [.tmp 4]) (vs := [_]) rfl ⟨rfl, trivial⟩ ?_
        first | rfl | (rw [Tr.cmp_self]; rfl) | (simp only [tupV]; rw [Tr.cmp_self]; rfl)
      ·
        intro h21
        refine K_gyes rfl rfl ?_
        refine KV (R_move rfl) rfl ?_
        refine K_gyes rfl rfl ?_
        refine KV (R_len sl25 rfl) rfl ?_
        refine K_gyes rfl rfl ?_
        refine KV (R_cmp rfl rfl rfl) rfl ?_
        refine KV (R_pickF rfl rfl) rfl ?_
        refine K_nil ?_
        refine Q_then ?_
        refine K_if rfl (fun h25 => ?_) (fun h25 => ?_)
        ·
          refine K_seq ?_
          refine K_region ?_
          refine K_call c7 rfl rfl (known_spec _ (hT.mono (by first | exact hv1.trans hv2 | exact hv1.trans (hv2.trans hv3)))) ?_
          rintro _ V9 hv9 rfl
          refine KV (R_assign rfl) rfl ?_
          refine K_nil ?_
          refine Q_then ?_
          refine K_ret ?_
          refine Q_then_ret ?_
          refine results_gen (rs := [.tmp 4]) (vs := [_]) rfl ⟨rfl, trivial⟩ ?_
          first | rfl | (rw [Tr.cmp_self]; rfl) | (simp only [tupV]; rw [Tr.cmp_self]; rfl)
        ·
          refine K_skip ?_
          refine Q_then ?_
          refine K_seq ?_
          refine K_region ?_
          refine KV (R_loadO ty24 0 rfl rfl rfl rfl (fun e => by cases e) rfl) rfl ?_
          refine K_call c11 rfl rfl (tree_spec t.size t V3 _ (Nat.le_refl _) (by omega) (hr.mono (hv1.trans (hv2.trans hv3)))) ?_
          rintro _ V4 hv4 ⟨ds0, rfl, hd0⟩
          refine KV (R_move rfl) rfl ?_
          refine K_call c10 rfl rfl (relabel_spec to _ t.size t V4 _ (Nat.le_refl _) (by omega) hd0 (hto.mono (hv1.trans (hv2.trans (hv3.trans hv4))))) ?_
          rintro _ V5 hv5 ⟨ds, e, rfl, hres⟩
          obtain ⟨he, hR⟩ : e = (if (Tr.relabel to t).isSome then 0 else 6) ∧ RepT V5 ((Tr.relabel to t).getD (.node 0 [])) ds := by
            revert hres
            cases Tr.relabel to t with
            | none => exact fun h => h
            | some u => exact fun h => h
          obtain ⟨y0, y1, y2, y3, rfl⟩ := hR.shape
          refine KV (R_move rfl) rfl ?_
          refine KV (R_extract rfl rfl) rfl ?_
          refine KV (R_extract rfl rfl) rfl ?_
          refine KA (A_alloc z30) rfl fun b5 => ?_
          refine K_store ty30 0 rfl rfl rfl rfl rfl rfl ?_
          refine KV (R_assign rfl) rfl ?_
          refine K_nil ?_
          refine Q_then ?_
          refine K_seq ?_
          refine K_region ?_
          refine KV (R_loadO ty24 1 rfl rfl rfl rfl (fun e => by cases e) rfl) rfl ?_
          refine KV (R_move rfl) rfl ?_
          refine K_call c12 rfl rfl (rrelabel_spec to _ t.size t V5 _ (Nat.le_refl _) (by omega) (hr.mono (hv1.trans (hv2.trans (hv3.trans (hv4.trans hv5))))) (hto.mono (hv1.trans (hv2.trans (hv3.trans (hv4.trans hv5)))))) ?_
          rintro _ V6 hv6 ⟨ds2, r, rfl, hres2⟩
          obtain ⟨hrr, hR2⟩ : r = (Tr.relabel to t).isSome ∧ RepT V6 ((Tr.relabel to t).getD (.node 0 [])) ds2 := by
            revert hres2
            cases Tr.relabel to t with
            | none => exact fun h => h
            | some u => exact fun h => h
          obtain ⟨z0, z1, z2, z3, rfl⟩ := hR2.shape
          have hus : ((Tr.relabel to t).getD (.node 0 [])).size ≤ 1073741824 := by
            cases hrl : Tr.relabel to t with
            | none => decide
            | some u => have := Tr.relabel_size _ _ hrl; simp only [Option.getD_some]; omega
          generalize (Tr.relabel to t).getD (.node 0 []) = u at hR hR2 hus
          refine KV (R_move rfl) rfl ?_
          refine KV (R_extract rfl rfl) rfl ?_
          refine KV (R_extract rfl rfl) rfl ?_
          refine KA (A_alloc z24) rfl fun b7 => ?_
          refine K_store ty24 0 rfl rfl rfl rfl rfl rfl ?_
          refine KV (R_assign rfl) rfl ?_
          refine K_nil ?_
          refine Q_then ?_
          refine K_seq ?_
          refine K_regionD (fin := false) (R := [0, 1, 2, 3, 4, 5, 6, 7, 8, 9, 10, 11, 12, 14, 13, 15, 16, 17, 18]) (by kernel_rfl) mixed (.cons_cons _ (.cons_cons _ (.cons_cons _ (List.nil_sublist _)))) ?_
          refine D_val rfl rfl rfl (R_move rfl) ?_
          refine D_val rfl rfl rfl (R_cmp rfl rfl rfl) ?_
          refine D_val rfl rfl rfl (R_move rfl) ?_
          refine D_val rfl rfl rfl (R_boolEq (by kernel_rfl) rfl rfl) ?_
          refine D_val rfl rfl rfl (R_move rfl) ?_
          refine D_splitB ?_ ?_
          ·
            intro h44
            refine D_val rfl rfl rfl (R_move rfl) ?_
            refine D_val rfl rfl rfl (R_move rfl) ?_
            refine D_splitB ?_ ?_
            ·
              intro h46
              refine D_skip rfl rfl ?_
              refine D_skip rfl rfl ?_
              refine D_val rfl rfl rfl (R_pickT rfl rfl) ?_
              refine D_val rfl rfl rfl (R_pickT rfl rfl) ?_
              refine D_val rfl rfl rfl (R_move rfl) ?_
              refine D_val rfl rfl rfl (R_loadO ty30 1 rfl rfl rfl rfl (fun e => by cases e) rfl) ?_
              refine D_val rfl rfl rfl (R_loadO ty24 0 rfl rfl rfl rfl (fun e => by cases e) rfl) ?_
              refine D_call rfl rfl c14 rfl ⟨⟨0, rfl⟩, ⟨1, rfl⟩, ⟨2, rfl⟩, trivial⟩ (back_spec u.size u V6 _ (Nat.le_refl _) (by omega) (hR.mono hv6)) ?_
              rintro _ V7 hv7 ⟨ds3, rfl, hR3⟩
              refine D_call rfl rfl c13 rfl ⟨⟨0, rfl⟩, ⟨1, rfl⟩, ⟨2, rfl⟩, trivial⟩ (tcmp_spec u.size u u V7 _ _ (Nat.le_refl _) (by omega) (by omega) hR3 (hR2.mono hv7)) ?_
              rintro _ V8 hv8 rfl
              refine D_val rfl rfl rfl (R_cmp rfl rfl rfl) ?_
              refine D_val rfl rfl rfl (R_pickT rfl rfl) ?_
              refine D_val rfl rfl rfl (R_assign rfl) ?_
              refine D_done ?_
              refine Q_then ?_
              refine K_ret ?_
              refine results_gen (rs := [.tmp 4]) (vs := [_]) rfl ⟨rfl, trivial⟩ ?_
              first | rfl | (rw [Tr.cmp_self]; rfl) | (simp only [tupV]; rw [Tr.cmp_self]; rfl)
            ·
              intro h46
              refine D_val rfl rfl rfl (R_move rfl) ?_
              refine D_val rfl rfl rfl (R_cmp rfl rfl rfl) ?_
              refine D_val rfl rfl rfl (R_pickF rfl rfl) ?_
              refine D_val rfl rfl rfl (R_pickT rfl rfl) ?_
              refine D_val rfl rfl rfl (R_move rfl) ?_
              refine D_split ?_ ?_
              ·
                intro h51
                refine D_val rfl rfl rfl (R_loadO ty30 1 rfl rfl rfl rfl (fun e => by cases e) rfl) ?_
                refine D_val rfl rfl rfl (R_loadO ty24 0 rfl rfl rfl rfl (fun e => by cases e) rfl) ?_
                refine D_call rfl rfl c14 rfl ⟨⟨0, rfl⟩, ⟨1, rfl⟩, ⟨2, rfl⟩, trivial⟩ (back_spec u.size u V6 _ (Nat.le_refl _) (by omega) (hR.mono hv6)) ?_
                rintro _ V7 hv7 ⟨ds3, rfl, hR3⟩
                refine D_call rfl rfl c13 rfl ⟨⟨0, rfl⟩, ⟨1, rfl⟩, ⟨2, rfl⟩, trivial⟩ (tcmp_spec u.size u u V7 _ _ (Nat.le_refl _) (by omega) (by omega) hR3 (hR2.mono hv7)) ?_
                rintro _ V8 hv8 rfl
                refine D_val rfl rfl rfl (R_cmp rfl rfl rfl) ?_
                refine D_val rfl rfl rfl (R_pickT rfl rfl) ?_
                refine D_val rfl rfl rfl (R_assign rfl) ?_
                refine D_done ?_
                refine Q_then ?_
                refine K_ret ?_
                refine results_gen (rs := [.tmp 4]) (vs := [_]) rfl ⟨rfl, trivial⟩ ?_
                first | rfl | (rw [Tr.cmp_self]; rfl) | (simp only [tupV]; rw [Tr.cmp_self]; rfl)
              ·
                intro h51
                exfalso
                rw [he, hrr.symm.trans h46] at h51
                exact h51 rfl
          ·
            intro h44
            exfalso
            rw [he, hrr] at h44
            revert h44
            cases (Tr.relabel to t).isSome <;> simp
end Go.Proofs.X
