/-
  Part of the proof: contracts of the functions that the statements reach. Own work. No statement of the seat is proved here.
-/
import Derived.Test.YtbelekbnjiajaaaDoorPalYI
import Derived.Test.YtbelekbnjiajaaaDoorProg
namespace Go.Proofs.X
open Go Pal Go.Proofs
attribute [local irreducible] Pal.KO Pal.KC Pal.KQ Pal.KD
theorem z50 : zeroOk Tryd.prog 50 (.agg #[.slice none 0 0, .int .i64 0, .slice none 0 0, .slice none 0 0]) := .of (by kernel_rfl)
theorem pl50 : placesOk Tryd.prog 50 [(0, 1), (1, 1), (2, 1), (3, 1)] := ⟨_, Tryd.underlying50, by kernel_rfl⟩
theorem pl85 : placesOk Tryd.prog 85 [(0, 1), (1, 1), (2, 1)] := ⟨_, Tryd.underlying85, by kernel_rfl⟩
theorem c16 : callable Tryd.prog 16 = true := by kernel_rfl
theorem c18 : callable Tryd.prog 18 = true := by kernel_rfl
theorem c22 : callable Tryd.prog 22 = true := by kernel_rfl
theorem known_spec (H : View) (hT : Tab H) : Sat Tryd.prog 7 #[] H (fun v _ => v = .bool true) := by
  obtain ⟨st, hkn, hels, hacc⟩ := known_cons
  refine enterO (n := 75) (args := []) Tryd.func7 rfl rfl rfl fun w0 => ?_
  refine K_seq ?_
  refine K_region ?_
  refine KV (R_assign rfl) rfl ?_
  refine K_nil ?_
  refine Q_then ?_
  refine K_seq ?_
  refine K_region ?_
  refine KA (A_buildSlice (vs := [.int .i64 0, .int .i64 2]) sl47 ty3 z3 rfl rfl (by simp [Value.cells]) (by simp) rfl (by decide)) rfl fun b6 => ?_
  refine KV (R_build z85 pl85 rfl rfl) rfl ?_
  refine KV (R_build z85 pl85 rfl rfl) rfl ?_
  refine KA (A_buildSlice (vs := [.int .i64 0, .int .i64 1]) sl25 ty3 z3 rfl rfl (by simp [Value.cells]) (by simp) rfl (by decide)) rfl fun b9 => ?_
  refine KV (R_build z85 pl85 rfl rfl) rfl ?_
  refine KA (A_buildSlice (vs := [.agg #[.int .i64 0, .slice none 0 0, .int .i64 0], .agg #[.int .i64 0, .slice none 0 0, .int .i64 1], .agg #[.int .i64 1, slc 2 b9, .int .i64 1]]) sl48 ty85 z85 rfl rfl (by simp [Value.cells]) (by simp) rfl (by decide)) rfl fun b11 => ?_
  refine KA (A_buildSlice (vs := [.int .i64 1]) sl25 ty3 z3 rfl rfl (by simp [Value.cells]) (by simp) rfl (by decide)) rfl fun b12 => ?_
  refine KV (R_build z50 pl50 rfl rfl) rfl ?_
  refine KA (A_alloc z50) rfl fun b1 => ?_
  refine K_store ty50 0 rfl rfl rfl rfl rfl rfl ?_
  refine K_nil ?_
  refine KQ_front 1 rfl ?_
  refine KQ_pubnew (by simp [feet]) fun V1 hv1 hb12 => ?_
  refine KQ_front 1 rfl ?_
  refine KQ_pubnew (by simp [feet]) fun V2 hv2 hb11 => ?_
  refine KQ_front 1 rfl ?_
  refine KQ_pubnew (by simp [feet]) fun V3 hv3 hb9 => ?_
  refine KQ_front 1 rfl ?_
  refine KQ_pubnew (by simp [feet]) fun V4 hv4 hb6 => ?_
  have hi : ∀ x : Int, x = 0 ∨ x = 1 ∨ x = 2 → i64ok x := by intro x hx; simp only [i64ok]; omega
  have hsn : ∀ V, SI V (.slice none 0 0) [] := fun V => ⟨⟨none, 0, rfl, .inl ⟨rfl, rfl⟩⟩, by simp⟩
  have hs9 : SI V4 (slc 2 b9) [0, 1] := ⟨⟨_, _, rfl, .inr ⟨b9, 0, rfl, (At.of hb9).mono hv4⟩⟩, fun x hx => hi x (by simp at hx; omega)⟩
  have hrep : RepAu V4 knownA (slc 2 b6) (slc 3 b11) (slc 1 b12) := by
    refine ⟨⟨⟨_, _, rfl, .inr ⟨b6, 0, rfl, At.of hb6⟩⟩, fun x hx => hi x (by simp [knownA] at hx; omega)⟩, ⟨_, ⟨_, _, rfl, .inr ⟨b11, 0, rfl, (At.of hb11).mono (hv3.trans hv4)⟩⟩, ?_⟩, ⟨⟨_, _, rfl, .inr ⟨b12, 0, rfl, (At.of hb12).mono (hv2.trans (hv3.trans hv4))⟩⟩, fun x hx => hi x (by simp [knownA] at hx; omega)⟩, hi 2 (by simp), by decide, by decide, by decide⟩
    have r1 : RepR V4 ⟨0, [], 0⟩ [.int .i64 0, .slice none 0 0, .int .i64 0] := ⟨none, 0, rfl, hsn _, hi 0 (by simp), hi 0 (by simp), by decide⟩
    have r2 : RepR V4 ⟨0, [], 1⟩ [.int .i64 0, .slice none 0 0, .int .i64 1] := ⟨none, 0, rfl, hsn _, hi 0 (by simp), hi 1 (by simp), by decide⟩
    have r3 : RepR V4 ⟨1, [0, 1], 1⟩ [.int .i64 1, slc 2 b9, .int .i64 1] := ⟨_, _, rfl, hs9, hi 1 (by simp), hi 1 (by simp), by decide⟩
    exact ((RepL.one r1 rfl).snoc r2 rfl).snoc r3 rfl
  have hT4 : Tab V4 := hT.mono (hv1.trans (hv2.trans (hv3.trans hv4)))
  refine Q_then ?_
  refine K_seq ?_
  refine K_region ?_
  refine KV (R_loadO ty50 0 rfl rfl rfl rfl (fun e => by cases e) rfl) rfl ?_
  refine K_call c16 rfl rfl (subsets_spec knownA 9 (slc 2 b6) (slc 3 b11) (slc 1 b12) V4 hT4 hrep) ?_
  rintro _ V5 hv5 ⟨w, rfl, hw⟩
  rw [hkn] at hw ⊢
  dsimp only at hw
  rw [hels] at hw
  obtain ⟨wa, wcp, rfl⟩ := hw.shape
  refine KV (R_move rfl) rfl ?_
  refine KV (R_extract rfl rfl) rfl ?_
  refine KV (R_extract rfl rfl) rfl ?_
  refine KV (R_assign rfl) rfl ?_
  refine KV (R_assign rfl) rfl ?_
  refine K_nil ?_
  refine Q_then ?_
  refine K_seq ?_
  refine K_region ?_
  refine KV (R_loadO ty50 0 rfl rfl rfl rfl (fun e => by cases e) rfl) rfl ?_
  refine K_call c18 rfl rfl (fromNTA_spec knownA 9 (slc 2 b6) (slc 3 b11) (slc 1 b12) V5 (hrep.mono hv5)) ?_
  rintro _ V6 hv6 ⟨v1, v2, v3, rfl, hd⟩
  rw [hkn] at hd ⊢
  dsimp only at hd
  have hac : SB V6 v2 [true, true, false] := hacc ▸ hd.a
  obtain ⟨da, dcp, rfl⟩ := hd.r.shape
  obtain ⟨ta, tcp, rfl⟩ := hd.t.shape
  obtain ⟨ca, ccp, rfl, _⟩ := id hac
  have hw6 := hw.mono hv6
  obtain ⟨wb, wo, e0, kc0, hwa, h0, s0⟩ := hw6.get (i := 0) (by decide)
  subst hwa
  obtain ⟨wb1, wo1, e1, kc1, hwa1, h1, s1⟩ := hw6.get (i := 1) (by decide)
  cases hwa1
  obtain ⟨wb2, wo2, e2, kc2, hwa2, h2, s2⟩ := hw6.get (i := 2) (by decide)
  cases hwa2
  obtain ⟨cb, co, hca, ha1⟩ := hac.get (i := 1) (by decide)
  subst hca
  obtain ⟨cb2, co2, hca2, ha2⟩ := hac.get (i := 2) (by decide)
  cases hca2
  refine KV (R_move rfl) rfl ?_
  refine KV (R_extract rfl rfl) rfl ?_
  refine KV (R_extract rfl rfl) rfl ?_
  refine KA (A_alloc z54) rfl fun b4 => ?_
  refine K_store ty54 0 rfl rfl rfl rfl rfl rfl ?_
  refine KV (R_assign rfl) rfl ?_
  refine K_nil ?_
  refine Q_then ?_
  refine K_seq ?_
  refine K_region ?_
  refine KV (R_move rfl) rfl ?_
  refine KV (R_cmp rfl rfl rfl) rfl ?_
  refine KV (R_move rfl) rfl ?_
  refine K_split ?_ ?_
  ·
    intro h26
    refine K_gyes rfl rfl ?_
    refine KV (R_move rfl) rfl ?_
    refine K_gyes rfl rfl ?_
    refine KV (R_cmp rfl rfl rfl) rfl ?_
    refine KV (R_pickT rfl rfl) rfl ?_
    refine KV (R_move rfl) rfl ?_
    refine K_split ?_ ?_
    ·
      intro h30
      refine K_gyes rfl rfl ?_
      refine KV (R_move rfl) rfl ?_
      refine K_gyes rfl rfl ?_
      refine KV (R_len sl44 rfl) rfl ?_
      refine K_gyes rfl rfl ?_
      refine KV (R_cmp rfl rfl rfl) rfl ?_
      refine KV (R_pickT rfl rfl) rfl ?_
      refine KV (R_move rfl) rfl ?_
      refine K_split ?_ ?_
      ·
        intro h35
        refine K_gyes rfl rfl ?_
        refine KV (R_move rfl) rfl ?_
        refine K_gyes rfl rfl ?_
        refine KV (R_index sl44 ty25 rfl rfl ⟨by decide, by decide⟩) rfl ?_
        refine K_gyes rfl rfl ?_
        refine KV (R_loadH ty25 rfl (h0) rfl (fun _ => rfl) rfl) rfl ?_
        refine K_gyes rfl rfl ?_
        refine KA (A_buildSlice (vs := [.int .i64 0, .int .i64 1]) sl25 ty3 z3 rfl rfl (by simp [Value.cells]) (by simp) rfl (by decide)) rfl fun b39 => ?_
        refine KO_pubnew (by simp [feet]) fun W1 hw1 hb39 => ?_
        refine K_gyes rfl rfl ?_
        refine K_call c22 rfl rfl (same_spec _ [0, 1] _ _ W1 (s0.mono hw1) ⟨⟨_, _, rfl, .inr ⟨b39, 0, rfl, At.of hb39⟩⟩, fun x hx => hi x (by simp at hx; omega)⟩ (by decide) (by decide)) ?_
        rintro _ W2 hw2 rfl
        refine KV (R_pickT rfl rfl) rfl ?_
        refine KV (R_move rfl) rfl ?_
        refine K_split ?_ ?_
        ·
          intro h42
          refine K_gyes rfl rfl ?_
          refine KV (R_move rfl) rfl ?_
          refine K_gyes rfl rfl ?_
          refine KV (R_index sl44 ty25 rfl rfl ⟨by decide, by decide⟩) rfl ?_
          refine K_gyes rfl rfl ?_
          refine KV (R_loadH ty25 rfl (h1.mono (hw1.trans hw2)) rfl (fun _ => rfl) rfl) rfl ?_
          refine K_gyes rfl rfl ?_
          refine KA (A_buildSlice (vs := [.int .i64 1]) sl25 ty3 z3 rfl rfl (by simp [Value.cells]) (by simp) rfl (by decide)) rfl fun b46 => ?_
          refine KO_pubnew (by simp [feet]) fun W3 hw3 hb46 => ?_
          refine K_gyes rfl rfl ?_
          refine K_call c22 rfl rfl (same_spec _ [1] _ _ W3 (s1.mono (hw1.trans (hw2.trans hw3))) ⟨⟨_, _, rfl, .inr ⟨b46, 0, rfl, At.of hb46⟩⟩, fun x hx => hi x (by simp at hx; omega)⟩ (by decide) (by decide)) ?_
          rintro _ W4 hw4 rfl
          refine KV (R_pickT rfl rfl) rfl ?_
          refine KV (R_move rfl) rfl ?_
          refine K_split ?_ ?_
          ·
            intro h49
            refine K_gyes rfl rfl ?_
            refine KV (R_move rfl) rfl ?_
            refine K_gyes rfl rfl ?_
            refine KV (R_index sl44 ty25 rfl rfl ⟨by decide, by decide⟩) rfl ?_
            refine K_gyes rfl rfl ?_
            refine KV (R_loadH ty25 rfl (h2.mono (hw1.trans (hw2.trans (hw3.trans hw4)))) rfl (fun _ => rfl) rfl) rfl ?_
            refine K_gyes rfl rfl ?_
            refine KV (R_len sl25 rfl) rfl ?_
            refine K_gyes rfl rfl ?_
            refine KV (R_cmp rfl rfl rfl) rfl ?_
            refine KV (R_pickT rfl rfl) rfl ?_
            refine KV (R_move rfl) rfl ?_
            refine K_split ?_ ?_
            ·
              intro h56
              refine K_gyes rfl rfl ?_
              refine KV (R_fieldAddr 1 fd54_1 rfl) rfl ?_
              refine K_gyes rfl rfl ?_
              refine KV (R_loadO ty52 0 rfl rfl rfl rfl (fun _ => rfl) rfl) rfl ?_
              refine K_gyes rfl rfl ?_
              refine KV (R_len sl52 rfl) rfl ?_
              refine K_gyes rfl rfl ?_
              refine KV (R_cmp rfl rfl rfl) rfl ?_
              refine KV (R_pickT rfl rfl) rfl ?_
              refine KV (R_move rfl) rfl ?_
              refine K_split ?_ ?_
              ·
                intro h62
                refine K_gyes rfl rfl ?_
                refine KV (R_fieldAddr 1 fd54_1 rfl) rfl ?_
                refine K_gyes rfl rfl ?_
                refine KV (R_loadO ty52 0 rfl rfl rfl rfl (fun _ => rfl) rfl) rfl ?_
                refine K_gyes rfl rfl ?_
                refine KV (R_index sl52 ty4 rfl rfl ⟨by decide, by decide⟩) rfl ?_
                refine K_gyes rfl rfl ?_
                refine KV (R_loadH ty4 rfl (ha1.mono (hw1.trans (hw2.trans (hw3.trans hw4)))) rfl (fun _ => rfl) rfl) rfl ?_
                refine KV (R_pickT rfl rfl) rfl ?_
                refine KV (R_move rfl) rfl ?_
                refine K_splitB ?_ ?_
                ·
                  intro h68
                  refine K_gyes rfl rfl ?_
                  refine KV (R_fieldAddr 1 fd54_1 rfl) rfl ?_
                  refine K_gyes rfl rfl ?_
                  refine KV (R_loadO ty52 0 rfl rfl rfl rfl (fun _ => rfl) rfl) rfl ?_
                  refine K_gyes rfl rfl ?_
                  refine KV (R_index sl52 ty4 rfl rfl ⟨by decide, by decide⟩) rfl ?_
                  refine K_gyes rfl rfl ?_
                  refine KV (R_loadH ty4 rfl (ha2.mono (hw1.trans (hw2.trans (hw3.trans hw4)))) rfl (fun _ => rfl) rfl) rfl ?_
                  refine K_gyes rfl rfl ?_
                  refine KV (R_not rfl) rfl ?_
                  refine KV (R_pickT rfl rfl) rfl ?_
                  refine KV (R_assign rfl) rfl ?_
                  refine K_nil ?_
                  refine Q_then ?_
                  refine K_ret ?_
                  refine results_gen (rs := [.tmp 0]) (vs := [_]) rfl ⟨rfl, trivial⟩ ?_
                  rfl
                ·
                  intro h68
                  exact absurd h68 (by decide)
              ·
                intro h62
                exact absurd (by decide) h62
            ·
              intro h56
              exact absurd (by decide) h56
          ·
            intro h49
            exact absurd (by decide) h49
        ·
          intro h42
          exact absurd (by decide) h42
      ·
        intro h35
        exact absurd (by decide) h35
    ·
      intro h30
      exact absurd (rfl) h30
  ·
    intro h26
    exact absurd (rfl) h26
end Go.Proofs.X
