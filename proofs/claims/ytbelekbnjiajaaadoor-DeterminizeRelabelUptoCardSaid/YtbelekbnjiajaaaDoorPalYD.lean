/-
  Part of the proof: contracts of the functions that the statements reach. Own work. No statement of the seat is proved here.
-/
import Derived.Test.YtbelekbnjiajaaaDoorPalYC
import Derived.Test.YtbelekbnjiajaaaDoorProg
namespace Go.Proofs.X
open Go Pal Go.Proofs
attribute [local irreducible] Pal.KO Pal.KC Pal.KQ Pal.KD
theorem z48 : zeroOk Tryd.prog 48 (.slice none 0 0) := .of (by kernel_rfl)
theorem z95 : zeroOk Tryd.prog 95 (.agg #[.slice none 0 0, .int .i64 0, .slice none 0 0, .slice none 0 0, .slice none 0 0, .map none, .slice none 0 0, .map none]) := .of (by kernel_rfl)
theorem pl95 : placesOk Tryd.prog 95 [(0, 4), (4, 1), (5, 1), (6, 1), (7, 1)] := ⟨_, Tryd.underlying95, by kernel_rfl⟩
theorem c77 : callable Tryd.prog 77 = true := by kernel_rfl
theorem c78 : callable Tryd.prog 78 = true := by kernel_rfl
theorem c79 : callable Tryd.prog 79 = true := by kernel_rfl
theorem ap48 : App Tryd.prog 48 85 3 40 := .of sl48 (by kernel_rfl)
theorem ap90 : App Tryd.prog 90 48 1 24 := .of sl90 (by kernel_rfl)
theorem newb_spec (a : Au) (haok : AuOk a) (vr vu vf : Value) (H : View) (ha : RepAu H a vr vu vf) : SatO Tryd.prog 78 #[.agg #[vr, .int .i64 a.states, vu, vf]] H []
    (fun v H' q => ∃ B m1 m2 vrules, v = ptr B ∧ RepBy H' a vrules ∧ BE B m1 m2 a vr vu vf vrules ⟨[], []⟩ q) := by
  obtain ⟨ra, rcp, rfl⟩ := ha.r.shape
  obtain ⟨ua, ucp, rfl⟩ := ha.ushape
  have hrl := haok.rl
  have hul := haok.ul
  refine enterO (n := 42) (args := [.agg #[.slice ra a.ranks.length rcp, .int .i64 a.states, .slice ua a.rules.length ucp, vf]]) Tryd.func78 rfl rfl rfl fun w0 => ?_
  refine K_seq ?_
  refine K_region ?_
  refine KA (A_box rfl) rfl fun b1 => ?_
  refine KV (R_assign rfl) rfl ?_
  refine K_nil ?_
  refine Q_then ?_
  refine K_seq ?_
  refine K_regionD (fin := false) (R := [0, 1, 2, 3, 4, 5, 6, 7, 8, 9]) (by kernel_rfl) mixed (.cons_cons _ (List.nil_sublist _)) ?_
  refine D_val rfl rfl rfl (R_loadO ty50 0 rfl rfl rfl rfl (fun e => by cases e) rfl) ?_
  refine D_val rfl rfl rfl (R_fieldAddr 0 fd50_0 rfl) ?_
  refine D_val rfl rfl rfl (R_loadO ty47 0 rfl rfl rfl rfl (fun _ => rfl) rfl) ?_
  refine D_val rfl rfl rfl (R_len sl47 rfl) ?_
  refine D_makeSlice rfl rfl rfl ⟨⟨0, rfl⟩, trivial⟩ (A_makeSlice ap90 z48 ty48 rfl rfl (by omega) (by omega)) fun b10 => ?_
  refine D_alloc rfl rfl rfl (A_makeMap) fun b11 => ?_
  refine D_alloc rfl rfl rfl (A_makeMap) fun b12 => ?_
  refine D_val rfl rfl rfl (R_build z95 pl95 rfl rfl) ?_
  refine D_alloc rfl rfl rfl (A_box rfl) fun b14 => ?_
  refine D_val rfl rfl rfl (R_assign rfl) ?_
  refine D_done ?_
  refine KQ_sel [2, 1, 0, 0, 0] rfl ?_
  refine KQ_mapNew ?_
  refine KQ_front 1 rfl ?_
  refine KQ_mapNew ?_
  refine KQ_sel [3, 2, 2, 1, 0] rfl ?_
  rw [show madeCells (Value.slice none 0 0).cells (a.ranks.length * 1) = headsF nilF a.ranks.length from madeNil _]
  refine KQ_nilrows 85 3 a.ranks.length ?_
  refine Q_then ?_
  refine K_seq ?_
  refine K_seq ?_
  refine K_region ?_
  refine KV (R_fieldAddr 2 fd50_2 rfl) rfl ?_
  refine KV (R_loadO ty48 2 rfl rfl rfl rfl (fun _ => rfl) rfl) rfl ?_
  refine KV (R_len sl48 rfl) rfl ?_
  refine KV (R_move rfl) rfl ?_
  refine K_nil ?_
  refine Q_then ?_
  refine K_block ?_
  refine K_loop (G := Nat × View × Fam) ⟨fun g => [(1, ptr b1), (3, ptr b14), (16, .slice ua a.rules.length ucp), (17, .int .i64 a.rules.length), (18, .int .i64 (g.1 : Int))], fun g => blk b10 (.cells (headsF g.2.2 a.ranks.length) 48 (0, 0)) :: blk b14 (.cells #[.slice ra a.ranks.length rcp, .int .i64 a.states, .slice ua a.rules.length ucp, vf, slc a.ranks.length b10, mp b11, .slice none 0 0, mp b12] 95 (0, 0)) :: blk b1 (.cells #[.slice ra a.ranks.length rcp, .int .i64 a.states, .slice ua a.rules.length ucp, vf] 50 (0, 0)) :: mapO b11 [] :: mapO b12 [] :: rowsF 85 3 g.2.2 a.ranks.length, fun g => g.2.1, fun g => g.1 ≤ a.rules.length ∧ VLe H g.2.1 ∧ ∀ s, s < a.ranks.length → (∃ ad cp, (g.2.2 s).1 = .slice ad (g.2.2 s).2.1 cp) ∧ (g.2.2 s).2.1 = ((a.rules.take g.1).filter (fun r => decide (r.sym = (s : Int)))).length ∧ RepL (RepR g.2.1) 3 ((a.rules.take g.1).filter (fun r => decide (r.sym = (s : Int)))) (g.2.2 s).2.2, fun g => a.rules.length - g.1⟩ (0, H, nilF) ⟨Nat.zero_le _, VLe.refl H, fun s _ => ⟨⟨none, 0, rfl⟩, rfl, .nil⟩⟩ ⟨rfl, rfl, rfl, rfl, rfl, trivial⟩ rfl rfl ?_
  rintro ⟨k, V, f⟩ ⟨hk, hV, hf⟩
  dsimp only at hk hV hf ⊢
  refine K_seq ?_
  refine K_region ?_
  refine KV (R_cmp rfl rfl rfl) rfl ?_
  refine K_nil ?_
  refine Q_then ?_
  refine K_seq ?_
  refine K_if rfl (fun h19 => ?_) (fun h19 => ?_)
  ·
    have hk' : k < a.rules.length := by omega
    obtain ⟨ub, uo, ucp2, xa, xcp, hue, hrc, hsr, hsym, hto, hal⟩ := (ha.mono hV).rule hk'
    cases hue
    obtain ⟨hr1, hr2, hr3, hr4, hr5, hr6⟩ := haok.ru _ (List.getElem_mem hk')
    have hsn : a.rules[k].sym.toNat < a.ranks.length := by omega
    have hcnt := (hf _ hsn).2.1
    have hfl := List.length_filter_le (fun r : Rl => decide (r.sym = (a.rules[k].sym.toNat : Int))) (a.rules.take k)
    have htl := List.length_take_le k a.rules
    refine K_skip ?_
    refine Q_then ?_
    refine K_seq ?_
    refine K_block ?_
    refine K_seq ?_
    refine K_region ?_
    refine KV (R_indexN sl48 ty85 rfl rfl (by omega)) rfl ?_
    refine KV (R_loadH ty85 rfl (hrc) rfl (fun e => by cases e) rfl) rfl ?_
    refine KA (A_alloc z85) rfl fun b5 => ?_
    refine K_store ty85 0 rfl rfl rfl rfl rfl rfl ?_
    refine K_nil ?_
    refine Q_then ?_
    refine K_regionD (fin := true) (R := [0, 1, 2, 3, 4, 5, 6, 7, 8, 9, 10, 11, 12, 13, 14, 15, 16, 17, 18]) (by kernel_rfl) mixed (.cons_cons _ (.cons_cons _ (.cons_cons _ (.cons _ (.cons _ (.cons _ (List.nil_sublist _))))))) ?_
    refine D_val rfl rfl rfl (R_move rfl) ?_
    refine D_val rfl rfl rfl (R_nilCheck rfl) ?_
    refine D_val rfl rfl rfl (R_fieldAddr 4 fd95_1 rfl) ?_
    refine D_val rfl rfl rfl (R_loadO ty90 2 rfl rfl rfl rfl (fun _ => rfl) rfl) ?_
    refine D_val rfl rfl rfl (R_fieldAddr 0 fd85_0 rfl) ?_
    refine D_val rfl rfl rfl (R_loadO ty3 0 rfl rfl rfl rfl (fun _ => rfl) rfl) ?_
    refine D_val rfl rfl rfl (R_move rfl) ?_
    refine D_val rfl rfl rfl (R_nilCheck rfl) ?_
    refine D_val rfl rfl rfl (R_fieldAddr 4 fd95_1 rfl) ?_
    refine D_val rfl rfl rfl (R_loadO ty90 2 rfl rfl rfl rfl (fun _ => rfl) rfl) ?_
    refine D_val rfl rfl rfl (R_fieldAddr 0 fd85_0 rfl) ?_
    refine D_val rfl rfl rfl (R_loadO ty3 0 rfl rfl rfl rfl (fun _ => rfl) rfl) ?_
    refine D_val rfl rfl rfl (R_index sl90 ty48 rfl rfl ⟨by omega, by omega⟩) ?_
    refine D_val rfl rfl rfl (R_loadC ty48 1 rfl rfl (headsF_get (by omega) hsn)) ?_
    refine D_val rfl rfl rfl (R_loadO ty85 0 rfl rfl rfl rfl (fun e => by cases e) rfl) ?_
    refine D_alloc rfl rfl rfl (A_buildSlice (vs := [.agg #[.int .i64 a.rules[k].sym, .slice xa a.rules[k].args.length xcp, .int .i64 a.rules[k].to]]) sl48 ty85 z85 rfl rfl (by simp [Value.cells]) (by simp) rfl (by decide)) fun b37 => ?_
    refine D_append1 (a.rules[k].sym.toNat + 6) ap48 rfl rfl rfl rfl rfl (rowsF_get hsn) ⟨⟨0, rfl⟩, ⟨1, rfl⟩, ⟨2, rfl⟩, trivial⟩ rfl rfl ⟨by omega, by omega⟩ fun a38 k38 hn38 => ?_
    refine D_val rfl rfl rfl (R_index sl90 ty48 rfl rfl ⟨by omega, by omega⟩) ?_
    refine D_lastStoreE ty48 2 rfl rfl rfl rfl rfl rfl (by rw [headsF_size]; show _ + 1 ≤ _; omega) rfl (headsF_put (m := (f a.rules[k].sym.toNat).2.1 + 1) (cs := (f a.rules[k].sym.toNat).2.2 ++ [.int .i64 a.rules[k].sym, .slice xa a.rules[k].args.length xcp, .int .i64 a.rules[k].to]) (by omega) hsn) ?_
    refine KQ_own _ (List.Sublist.cons_cons _ (List.Sublist.cons _ (List.Sublist.refl _))) ?_
    refine KQ_perm _ ((List.perm_append_comm_assoc [_] [_, _, _, _, _] _).trans ((perm_set (rowsF_get hsn)).append_left _)) ?_
    refine Q_block ?_
    refine Q_then ?_
    refine K_region ?_
    refine KV (R_add rfl rfl (by omega)) rfl ?_
    refine KV (R_move rfl) rfl ?_
    refine K_nil ?_
    refine Q_next (k + 1, V, upd1 f a.rules[k].sym.toNat (.slice a38 ((f a.rules[k].sym.toNat).2.1 + 1) k38, (f a.rules[k].sym.toNat).2.1 + 1, (f a.rules[k].sym.toNat).2.2 ++ [.int .i64 a.rules[k].sym, .slice xa a.rules[k].args.length xcp, .int .i64 a.rules[k].to])) ⟨hk', hV, ?_⟩ (by dsimp only; omega) ⟨rfl, rfl, rfl, rfl, rfl, trivial⟩ (by dsimp only; rw [← rowsF_set hsn]; rfl) rfl
    intro s hs
    dsimp only
    obtain ⟨hf1, hf2, hf3⟩ := hf s hs
    rw [filter_take_succ hk']
    by_cases e : s = a.rules[k].sym.toNat
    · subst e
      have e2 : a.rules[k].sym = ((a.rules[k].sym.toNat : Nat) : Int) := by omega
      simp only [upd1, if_true]
      rw [if_pos e2]
      exact ⟨⟨a38, k38, rfl⟩, by rw [hf2, List.length_append]; rfl, hf3.snoc ⟨xa, xcp, rfl, hsr, hsym, hto, hal⟩ rfl⟩
    · have e2 : ¬ a.rules[k].sym = (s : Int) := by omega
      simp only [upd1, e, if_false]
      rw [if_neg e2, List.append_nil]
      exact ⟨hf1, hf2, hf3⟩
  ·
    have hk' : k = a.rules.length := by omega
    subst hk'
    refine K_exit ?_
    refine Q_then_exit ?_
    refine Q_then_exit ?_
    refine Q_block_exit ?_
    refine Q_then ?_
    refine K_seq ?_
    refine K_region ?_
    refine KV (R_move rfl) rfl ?_
    refine KV (R_assign rfl) rfl ?_
    refine K_nil ?_
    refine KQ_pubrows (hl := [_, _, _, _, _]) rfl fun W1 hw1 hrows => ?_
    refine KQ_pubnew (by simp [feet]) fun W2 hw2 hb10 => ?_
    refine KQ_nilrow 98 16 ?_
    refine Q_then ?_
    refine K_ret ?_
    refine results_sel [1, 2, 0, 1] rfl (rs := [.tmp 2]) (vs := [_]) rfl ⟨rfl, trivial⟩ ?_
    refine ⟨b14, b11, b12, slc a.ranks.length b10, rfl, ⟨b10, 0, a.ranks.length, rfl, fun s hs => ?_⟩, nilS, .inl ⟨rfl, rfl⟩, rfl⟩
    obtain ⟨⟨ad, cp, hf1⟩, hf2, hf3⟩ := hf s hs
    rw [List.take_length] at hf2 hf3
    have hsl := ((hrows s hs).sl).mono hw2
    have hro : rulesOf a s = a.rules.filter (fun r => decide (r.sym = (s : Int))) := rfl
    rw [← hro] at hf2 hf3
    rw [hf1, hf2] at hsl
    refine ⟨ad, cp, (f s).2.2, ?_, hsl, RepR.imp3 (hw1.trans hw2) hf3⟩
    have hone := (At.of hb10).one (j := s) (v := (f s).1) (by simp [headsF, hs])
    rw [hf1, hf2] at hone
    simpa using hone

theorem cons_spec (a : Au) (most : Int) (vr vu vf : Value) (H : View) (ha : RepAu H a vr vu vf) : SatO Tryd.prog 42 #[.agg #[vr, .int .i64 a.states, vu, vf], .int .i64 most] H []
    (fun v H' q => ∃ pv, v = .tuple #[pv, .int .i64 (consM a most).1] ∧ match (consM a most).2 with
      | none => pv = .pointer none
      | some st => ∃ B m1 m2 vrules, pv = ptr B ∧ AuOk a ∧ st.Inv (limM most) ∧ RepBy H' a vrules ∧ BE B m1 m2 a vr vu vf vrules st q) := by
  refine enterO (n := 23) (args := [.agg #[vr, .int .i64 a.states, vu, vf], .int .i64 most]) Tryd.func42 rfl rfl rfl fun w0 => ?_
  refine K_seq ?_
  refine K_region ?_
  refine KA (A_box rfl) rfl fun b2 => ?_
  refine KV (R_assign rfl) rfl ?_
  refine KV (R_assign rfl) rfl ?_
  refine K_nil ?_
  refine Q_then ?_
  refine K_seq ?_
  refine K_seq ?_
  refine K_region ?_
  refine KV (R_loadO ty50 0 rfl rfl rfl rfl (fun e => by cases e) rfl) rfl ?_
  refine K_call c77 rfl rfl (ncheck_spec a vr vu vf H ha) ?_
  rintro _ V1 hle1 rfl
  refine KV (R_assign rfl) rfl ?_
  refine K_nil ?_
  refine Q_then ?_
  refine K_seq ?_
  refine K_region ?_
  refine KV (R_move rfl) rfl ?_
  refine KV (R_cmp rfl rfl rfl) rfl ?_
  refine K_nil ?_
  refine Q_then ?_
  refine K_if rfl (fun h11 => ?_) (fun h11 => ?_)
  ·
    refine K_seq ?_
    refine K_region ?_
    refine KV (R_move rfl) rfl ?_
    refine KV (R_assign rfl) rfl ?_
    refine KV (R_assign rfl) rfl ?_
    refine K_nil ?_
    refine Q_then ?_
    refine K_ret ?_
    refine Q_then_ret ?_
    refine results_gen (rs := [.tmp 4, .tmp 5]) (vs := [_, _]) rfl ⟨rfl, ⟨rfl, trivial⟩⟩ ?_
    have hcm : consM a most = (auErr a, none) := by
      unfold consM
      rw [if_pos h11]
    rw [hcm]
    exact ⟨_, rfl, rfl⟩
  ·
    refine K_skip ?_
    refine Q_then ?_
    refine K_seq ?_
    refine K_seq ?_
    refine K_region ?_
    refine KV (R_move rfl) rfl ?_
    refine KV (R_cmp rfl rfl rfl) rfl ?_
    refine K_nil ?_
    refine Q_then ?_
    refine K_if rfl (fun h14 => ?_) (fun h14 => ?_)
    ·
      refine K_seq ?_
      refine K_region ?_
      refine KV (R_assign rfl) rfl ?_
      refine KV (R_assign rfl) rfl ?_
      refine K_nil ?_
      refine Q_then ?_
      refine K_ret ?_
      refine Q_then_ret ?_
      refine results_gen (rs := [.tmp 4, .tmp 5]) (vs := [_, _]) rfl ⟨rfl, ⟨rfl, trivial⟩⟩ ?_
      have hcm : consM a most = (2, none) := by
        unfold consM
        rw [if_neg h11, if_pos h14]
      rw [hcm]
      exact ⟨_, rfl, rfl⟩
    ·
      refine K_skip ?_
      refine Q_then ?_
      refine K_seq ?_
      refine K_region ?_
      refine KV (R_loadO ty50 0 rfl rfl rfl rfl (fun e => by cases e) rfl) rfl ?_
      have haok : AuOk a := AuOk.of (Decidable.not_not.1 h11)
      refine K_callO (first := []) [] [_] (List.Perm.refl _) c78 rfl rfl rfl (newb_spec a haok vr vu vf V1 (ha.mono hle1)) ?_
      rintro _ V2 q hle2 ⟨B, m1, m2, vrules, rfl, hby, hbe⟩
      refine KV (R_assign rfl) rfl ?_
      refine K_nil ?_
      refine Q_then ?_
      refine K_seq ?_
      refine K_seq ?_
      refine K_region ?_
      refine KV (R_move rfl) rfl ?_
      refine KV (R_move rfl) rfl ?_
      refine KV (R_min2 rfl rfl) rfl ?_
      refine K_callO (first := []) q [_] (List.Perm.refl _) c79 rfl rfl rfl (build_spec a haok (limM most) B m1 m2 vr vu vf vrules V2 ((ha.mono (hle1.trans hle2)).r) hby (by simp only [limM]; split <;> omega) ⟨[], []⟩ q 513 hbe (DS.Inv.nil (by simp only [limM]; split <;> omega)) (by simp only [limM, List.length_nil]; split <;> omega)) ?_
      rintro _ V3 q3 hle3 ⟨r, rfl, hr1, hr2⟩
      refine KV (R_not rfl) rfl ?_
      refine K_nil ?_
      refine Q_then ?_
      cases r with
      | false =>
        have hb := hr2 rfl
        have hcm : consM a most = (8, none) := by
          unfold consM
          rw [if_neg h11, if_neg h14, hb]
        refine K_ifT rfl ?_
        refine K_seq ?_
        refine K_region ?_
        refine KV (R_assign rfl) rfl ?_
        refine KV (R_assign rfl) rfl ?_
        refine K_nil ?_
        refine Q_then ?_
        refine K_ret ?_
        refine Q_then_ret ?_
        refine results_gen (rs := [.tmp 4, .tmp 5]) (vs := [_, _]) rfl ⟨rfl, ⟨rfl, trivial⟩⟩ ?_
        rw [hcm]
        exact ⟨_, rfl, rfl⟩
      | true =>
        obtain ⟨st, hb, hinv, hbe2⟩ := hr1 rfl
        have hcm : consM a most = (0, some st) := by
          unfold consM
          rw [if_neg h11, if_neg h14, hb]
        refine K_ifF rfl ?_
        refine K_skip ?_
        refine Q_then ?_
        refine K_seq ?_
        refine K_region ?_
        refine KV (R_move rfl) rfl ?_
        refine KV (R_assign rfl) rfl ?_
        refine KV (R_assign rfl) rfl ?_
        refine K_nil ?_
        refine Q_then ?_
        refine K_ret ?_
        refine KQ_own _ (List.sublist_append_left _ _) ?_
        refine results_gen (rs := [.tmp 4, .tmp 5]) (vs := [_, _]) rfl ⟨rfl, ⟨rfl, trivial⟩⟩ ?_
        rw [hcm]
        exact ⟨_, rfl, B, m1, m2, vrules, rfl, haok, hinv, hby.mono hle3, hbe2⟩
end Go.Proofs.X
