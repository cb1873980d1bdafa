/-
  Part of the proof: contracts of the functions that the statements reach. Own work. No statement of the seat is proved here.
-/
import Derived.Test.YtbelekbnjiajaaaDoorPalYG
import Derived.Test.YtbelekbnjiajaaaDoorProg
namespace Go.Proofs.X
open Go Pal Go.Proofs
attribute [local irreducible] Pal.KO Pal.KC Pal.KQ Pal.KD
theorem ty4 : Ty Tryd.prog 4 false 1 := .of (by kernel_rfl)
theorem ty44 : Ty Tryd.prog 44 false 1 := .of (by kernel_rfl)
theorem ty52 : Ty Tryd.prog 52 false 1 := .of (by kernel_rfl)
theorem ty54 : Ty Tryd.prog 54 true 3 := .of (by kernel_rfl)
theorem sl52 : slcOk Tryd.prog 52 4 := by unfold slcOk; kernel_rfl
theorem fd54_1 : fldOk Tryd.prog 54 1 1 = true := by kernel_rfl
theorem fd54_2 : fldOk Tryd.prog 54 2 2 = true := by kernel_rfl
theorem z4 : zeroOk Tryd.prog 4 (.bool false) := .of (by kernel_rfl)
theorem z54 : zeroOk Tryd.prog 54 (.agg #[.slice none 0 0, .slice none 0 0, .slice none 0 0]) := .of (by kernel_rfl)
theorem z87 : zeroOk Tryd.prog 87 (.pointer none) := .of (by kernel_rfl)
theorem pl54 : placesOk Tryd.prog 54 [(0, 1), (1, 1), (2, 1)] := ⟨_, Tryd.underlying54, by kernel_rfl⟩
theorem c44 : callable Tryd.prog 44 = true := by kernel_rfl
theorem c45 : callable Tryd.prog 45 = true := by kernel_rfl
theorem c46 : callable Tryd.prog 46 = true := by kernel_rfl
theorem c47 : callable Tryd.prog 47 = true := by kernel_rfl
theorem c49 : callable Tryd.prog 49 = true := by kernel_rfl
theorem ap52 : App Tryd.prog 52 4 1 1 := .of sl52 (by kernel_rfl)
theorem fromNTA_spec (a : Au) (most : Int) (vr vu vf : Value) (H : View) (ha : RepAu H a vr vu vf) : Sat Tryd.prog 18 #[.agg #[vr, .int .i64 a.states, vu, vf], .int .i64 most] H
    (fun v H' => ∃ v1 v2 v3, v = .tuple #[.agg #[v1, v2, v3], .int .i64 (consM a most).1] ∧ RepDt H' (match (consM a most).2 with | none => ⟨[], [], []⟩ | some st => fromM a st) v1 v2 v3) := by
  have hfl := ha.fl
  have hrl0 := ha.rl
  refine enterO (n := 76) (args := [.agg #[vr, .int .i64 a.states, vu, vf], .int .i64 most]) Tryd.func18 rfl rfl rfl fun w0 => ?_
  refine K_seq ?_
  refine K_region ?_
  refine KA (A_box rfl) rfl fun b2 => ?_
  refine KA (A_alloc z54) rfl fun b4 => ?_
  refine KV (R_assign rfl) rfl ?_
  refine K_nil ?_
  refine Q_then ?_
  refine K_seq ?_
  refine K_region ?_
  refine KV (R_loadO ty50 1 rfl rfl rfl rfl (fun e => by cases e) rfl) rfl ?_
  refine KV (R_move rfl) rfl ?_
  refine K_callO (first := []) [] [_, _] (List.Perm.refl _) c42 rfl rfl rfl (cons_spec a most vr vu vf H ha) ?_
  rintro _ V1 q hle1 ⟨pv, rfl, hpv⟩
  obtain ⟨po, rfl⟩ : ∃ po, pv = .pointer po := by
    revert hpv
    split
    · intro h; exact ⟨_, h⟩
    · rintro ⟨B, _, _, _, h, _⟩; exact ⟨_, h⟩
  refine KV (R_move rfl) rfl ?_
  refine KV (R_extract rfl rfl) rfl ?_
  refine KV (R_extract rfl rfl) rfl ?_
  refine KA (A_alloc z87) rfl fun b6 => ?_
  refine K_store ty87 0 rfl rfl rfl rfl rfl rfl ?_
  refine KV (R_assign rfl) rfl ?_
  refine K_nil ?_
  refine Q_then ?_
  refine K_seq ?_
  refine K_seq ?_
  refine K_region ?_
  refine KV (R_move rfl) rfl ?_
  refine KV (R_cmp rfl rfl rfl) rfl ?_
  refine K_nil ?_
  refine Q_then ?_
  refine K_if rfl (fun h22 => ?_) (fun h22 => ?_)
  ·
    have hcn := consM_ne h22
    refine KC_own [_, _] ((List.sublist_append_right _ _).cons _) ?_
    refine K_seq ?_
    refine K_region ?_
    refine KV (R_build z54 pl54 rfl rfl) rfl ?_
    refine KV (R_move rfl) rfl ?_
    refine K_store ty54 0 rfl rfl rfl rfl rfl rfl ?_
    refine KV (R_assign rfl) rfl ?_
    refine K_nil ?_
    refine Q_then ?_
    refine K_ret ?_
    refine Q_then_ret ?_
    refine results_gen (rs := [.cell 4 54, .tmp 5]) (vs := [_, _]) rfl ⟨⟨_, _, _, _, _, _, 0, rfl, rfl, ty54, (fun e => by cases e), rfl, rfl⟩, ⟨rfl, trivial⟩⟩ ?_
    rw [hcn]
    exact ⟨_, _, _, rfl, ⟨⟨none, 0, rfl, .inl ⟨rfl, rfl⟩⟩, by simp⟩, ⟨none, 0, rfl, .inl ⟨rfl, rfl⟩⟩, SSI.nil _ none 0⟩
  ·
    obtain ⟨st, hcs⟩ := consM_eq (a := a) (most := most) (by omega)
    have hc0 : (consM a most).1 = 0 := by omega
    rw [hcs] at hpv
    obtain ⟨B, m1, m2, vrules, hpB, haok, hinv, hby, vsub, hvs, rfl⟩ := hpv
    cases hpB
    obtain ⟨sa, scp, rfl⟩ := hvs.shape
    have hle := hinv.le
    have hlm : limM most ≤ 512 := by simp only [limM]; split <;> omega
    have hrl := haok.rl
    refine KC_pubnew (by simp [feet]) fun V2 hle2 hb6 => ?_
    have hA6 := At.of hb6
    refine K_skip ?_
    refine Q_then ?_
    refine K_seq ?_
    refine K_region ?_
    refine KV (R_fieldAddr 3 fd50_3 rfl) rfl ?_
    refine KV (R_loadO ty25 5 rfl rfl rfl rfl (fun _ => rfl) rfl) rfl ?_
    refine K_call c44 rfl rfl (of_spec a.final vf V2 ((ha.mono (hle1.trans hle2)).f) hfl) ?_
    rintro _ V3 hle3 rfl
    refine KA (A_alloc z98) rfl fun b8 => ?_
    refine K_storeW ty98 0 rfl rfl rfl rfl rfl rfl rfl ?_
    refine K_nil ?_
    refine Q_then ?_
    refine K_seq ?_
    refine K_region ?_
    refine KV (R_fieldAddr 0 fd50_0 rfl) rfl ?_
    refine KV (R_loadO ty47 6 rfl rfl rfl rfl (fun _ => rfl) rfl) rfl ?_
    refine K_call c45 rfl rfl (clone47_spec a.ranks vr V3 ((ha.mono (hle1.trans (hle2.trans hle3))).r) hrl0) ?_
    rintro vrc V4 hle4 hrc
    obtain ⟨ca, ccp, rfl⟩ := hrc.shape
    refine KV (R_build z54 pl54 rfl rfl) rfl ?_
    refine KA (A_alloc z54) rfl fun b9 => ?_
    refine K_store ty54 0 rfl rfl rfl rfl rfl rfl ?_
    refine K_nil ?_
    refine Q_then ?_
    refine K_seq ?_
    refine K_seq ?_
    refine K_region ?_
    refine KV (R_loadH ty87 rfl (hA6.mono (hle3.trans hle4)) rfl (fun _ => rfl) rfl) rfl ?_
    refine KV (R_nilCheck rfl) rfl ?_
    refine KV (R_fieldAddr 6 fd95_3 rfl) rfl ?_
    refine KV (R_loadO ty92 2 rfl rfl rfl rfl (fun _ => rfl) rfl) rfl ?_
    refine KV (R_len sl92 rfl) rfl ?_
    refine KV (R_move rfl) rfl ?_
    refine K_nil ?_
    refine Q_then ?_
    refine K_block ?_
    refine K_nilrow 4 1 ?_
    refine K_loop (G := Nat × View × Value) ⟨fun g => [(4, ptr b4), (6, ptr b6), (2, ptr b2), (8, ptr b8), (9, ptr b9), (35, .slice sa st.subs.length scp), (36, .int .i64 st.subs.length), (37, .int .i64 (g.1 : Int))], fun g => [row g.2.2 4 1 g.1 (bools ((accM a st).take g.1)), blk b9 (.cells #[.slice ca a.ranks.length ccp, g.2.2, .slice none 0 0] 54 (0, 0)), blk b8 (.cells (setV (ofL a.final)).cells 98 (0, 0)), blk B (.cells #[vr, .int .i64 a.states, vu, vf, vrules, mp m1, .slice sa st.subs.length scp, mp m2] 95 (0, 0)), mapO m1 (numKV st.subs), row (.slice sa st.subs.length scp) 98 16 st.subs.length (subCells st.subs), mapO m2 (resKV st.res), blk b4 (.cells #[.slice none 0 0, .slice none 0 0, .slice none 0 0] 54 (0, 0)), blk b2 (.cells #[vr, .int .i64 a.states, vu, vf] 50 (0, 0))], fun g => g.2.1, fun g => g.1 ≤ st.subs.length ∧ VLe V4 g.2.1 ∧ ∃ ad cp, g.2.2 = .slice ad g.1 cp, fun g => st.subs.length - g.1⟩ (0, V4, nilS) ⟨Nat.zero_le _, VLe.refl V4, none, 0, rfl⟩ ⟨rfl, rfl, rfl, rfl, rfl, rfl, rfl, rfl, trivial⟩ rfl rfl ?_
    rintro ⟨k, V, w⟩ ⟨hk, hVa, hw⟩
    dsimp only at hk hVa hw ⊢
    obtain ⟨wa, wcp, rfl⟩ := hw
    refine K_seq ?_
    refine K_region ?_
    refine KV (R_cmp rfl rfl rfl) rfl ?_
    refine K_nil ?_
    refine Q_then ?_
    refine K_seq ?_
    refine K_if rfl (fun h38 => ?_) (fun h38 => ?_)
    ·
      have hk' : k < st.subs.length := by omega
      obtain ⟨sg, scp2, hse⟩ : ∃ g cap, Value.slice sa st.subs.length scp = .slice (some ⟨g, 0, none⟩) st.subs.length cap := by
        rcases hvs with ⟨_, h0⟩ | h
        · omega
        · exact h
      cases hse
      refine K_skip ?_
      refine Q_then ?_
      refine K_seq ?_
      refine K_block ?_
      refine K_seq ?_
      refine K_region ?_
      refine KV (R_indexN sl92 ty98 rfl rfl (by omega)) rfl ?_
      refine KV (R_loadRow (v := setV st.subs[k]) ty98 5 rfl rfl rfl (by rw [Nat.zero_add]; exact subCells_get hk') rfl (fun e => by cases e) rfl) rfl ?_
      refine KA (A_alloc z98) rfl fun b11 => ?_
      refine K_storeW ty98 0 rfl rfl rfl rfl rfl rfl rfl ?_
      refine K_nil ?_
      refine Q_then ?_
      refine K_regionD (fin := true) (R := [0, 1, 2, 3, 4, 5, 6, 7, 8, 9, 10]) (by kernel_rfl) mixed (.cons_cons _ (.cons _ (.cons_cons _ (.cons_cons _ (.cons_cons _ (.cons_cons _ (.cons_cons _ (.cons_cons _ (.cons_cons _ (.cons_cons _ (List.nil_sublist _))))))))))) ?_
      refine D_val rfl rfl rfl (R_fieldAddr 1 fd54_1 rfl) ?_
      refine D_val rfl rfl rfl (R_loadO ty52 1 rfl rfl rfl rfl (fun _ => rfl) rfl) ?_
      refine D_val rfl rfl rfl (R_loadW ty98 0 rfl rfl rfl (show Value.agg _ = setV st.subs[k] from rfl)) ?_
      refine D_val rfl rfl rfl (R_loadW ty98 2 rfl rfl rfl (show Value.agg _ = setV (ofL a.final) from rfl)) ?_
      refine D_call rfl rfl c46 rfl ⟨⟨0, rfl⟩, ⟨2, rfl⟩, ⟨3, rfl⟩, ⟨4, rfl⟩, ⟨5, rfl⟩, ⟨6, rfl⟩, ⟨7, rfl⟩, ⟨8, rfl⟩, ⟨9, rfl⟩, trivial⟩ (inter_spec st.subs[k] (ofL a.final) (hinv.bg _ (List.getElem_mem hk')) V) ?_
      rintro _ V5 hle5 rfl
      refine D_call rfl rfl c47 rfl ⟨⟨0, rfl⟩, ⟨2, rfl⟩, ⟨3, rfl⟩, ⟨4, rfl⟩, ⟨5, rfl⟩, ⟨6, rfl⟩, ⟨7, rfl⟩, ⟨8, rfl⟩, ⟨9, rfl⟩, trivial⟩ (isEmpty_spec _ (and_big _ (hinv.bg _ (List.getElem_mem hk'))) V5) ?_
      rintro _ V6 hle6 rfl
      refine D_val rfl rfl rfl (R_not rfl) ?_
      refine D_alloc rfl rfl rfl (A_buildSlice (vs := [.bool (!decide (st.subs[k] &&& ofL a.final = 0))]) sl52 ty4 z4 rfl rfl (by simp [Value.cells]) (by simp) rfl (by decide)) fun b48 => ?_
      refine D_append1 1 ap52 rfl rfl rfl rfl rfl rfl ⟨⟨0, rfl⟩, ⟨1, rfl⟩, ⟨2, rfl⟩, ⟨3, rfl⟩, ⟨4, rfl⟩, ⟨5, rfl⟩, ⟨6, rfl⟩, ⟨7, rfl⟩, ⟨8, rfl⟩, trivial⟩ rfl rfl ⟨by omega, by omega⟩ fun a49 k49 hn49 => ?_
      refine D_val rfl rfl rfl (R_fieldAddr 1 fd54_1 rfl) ?_
      refine D_lastStore ty52 2 rfl rfl rfl rfl rfl rfl rfl rfl ?_
      refine Q_block ?_
      refine Q_then ?_
      refine K_region ?_
      refine KV (R_add rfl rfl (by omega)) rfl ?_
      refine KV (R_move rfl) rfl ?_
      refine K_nil ?_
      refine KQ_sel [0, 1, 1, 1, 1, 1, 1, 1, 1] rfl ?_
      exact Q_next (k + 1, V6, .slice a49 (k + 1) k49) ⟨hk', hVa.trans (hle5.trans hle6), _, _, rfl⟩ (by dsimp only; omega) ⟨rfl, rfl, rfl, rfl, rfl, rfl, rfl, rfl, trivial⟩ (by dsimp only; rw [accM_take a st k hk', bools_snoc]; rfl) rfl
    ·
      have hk' : k = st.subs.length := by omega
      subst hk'
      obtain ⟨ra, rcp, rfl⟩ := ha.r.shape
      refine K_exit ?_
      refine Q_then_exit ?_
      refine Q_then_exit ?_
      refine Q_block_exit ?_
      refine Q_then ?_
      refine K_seq ?_
      refine K_seq ?_
      refine K_region ?_
      refine KV (R_fieldAddr 0 fd50_0 rfl) rfl ?_
      refine KV (R_loadO ty47 8 rfl rfl rfl rfl (fun _ => rfl) rfl) rfl ?_
      refine KV (R_len sl47 rfl) rfl ?_
      refine KV (R_move rfl) rfl ?_
      refine K_nil ?_
      refine Q_then ?_
      refine K_block ?_
      refine K_nilrow 25 1 ?_
      refine K_loop (G := Nat × View × Value × List Value) ⟨fun g => [(4, ptr b4), (6, ptr b6), (2, ptr b2), (9, ptr b9), (53, .slice ra a.ranks.length rcp), (54, .int .i64 a.ranks.length), (55, .int .i64 (g.1 : Int))], fun g => [row g.2.2.1 25 1 g.1 g.2.2.2, row (.slice wa st.subs.length wcp) 4 1 st.subs.length (bools ((accM a st).take st.subs.length)), blk b9 (.cells #[.slice ca a.ranks.length ccp, .slice wa st.subs.length wcp, g.2.2.1] 54 (0, 0)), blk b8 (.cells (setV (ofL a.final)).cells 98 (0, 0)), blk B (.cells #[.slice ra a.ranks.length rcp, .int .i64 a.states, vu, vf, vrules, mp m1, .slice sa st.subs.length scp, mp m2] 95 (0, 0)), mapO m1 (numKV st.subs), row (.slice sa st.subs.length scp) 98 16 st.subs.length (subCells st.subs), mapO m2 (resKV st.res), blk b4 (.cells #[.slice none 0 0, .slice none 0 0, .slice none 0 0] 54 (0, 0)), blk b2 (.cells #[.slice ra a.ranks.length rcp, .int .i64 a.states, vu, vf] 50 (0, 0))], fun g => g.2.1, fun g => g.1 ≤ a.ranks.length ∧ VLe V g.2.1 ∧ RepL (RSI g.2.1) 1 ((List.range g.1).map (toM a st)) g.2.2.2 ∧ ∃ ad cp, g.2.2.1 = .slice ad g.1 cp, fun g => a.ranks.length - g.1⟩ (0, V, nilS, []) ⟨Nat.zero_le _, VLe.refl V, .nil, none, 0, rfl⟩ ⟨rfl, rfl, rfl, rfl, rfl, rfl, rfl, trivial⟩ rfl rfl ?_
      rintro ⟨s, V7, w, cells⟩ ⟨hs, hV, hR, hw⟩
      dsimp only at hs hV hR hw ⊢
      obtain ⟨za, zcp, rfl⟩ := hw
      refine K_seq ?_
      refine K_region ?_
      refine KV (R_cmp rfl rfl rfl) rfl ?_
      refine K_nil ?_
      refine Q_then ?_
      refine K_seq ?_
      refine K_if rfl (fun h56 => ?_) (fun h56 => ?_)
      ·
        have hs' : s < a.ranks.length := by omega
        obtain ⟨rb, ro, rfl, hrk⟩ := ((ha.mono (hle1.trans (hle2.trans (hle3.trans (hle4.trans (hVa.trans hV)))))).r).get hs'
        refine K_skip ?_
        refine Q_then ?_
        refine K_seq ?_
        refine K_block ?_
        refine K_seq ?_
        refine K_region ?_
        refine KV (R_move rfl) rfl ?_
        refine KV (R_indexN sl47 ty3 rfl rfl (by omega)) rfl ?_
        refine KV (R_loadH ty3 rfl (hrk) rfl (fun _ => rfl) rfl) rfl ?_
        refine KA (A_alloc z3) rfl fun b12 => ?_
        refine K_store ty3 0 rfl rfl rfl rfl rfl rfl ?_
        refine KV (R_assign rfl) rfl ?_
        refine K_nil ?_
        refine KQ_pubnew (by simp [feet]) fun W1 hw1 hb12 => ?_
        have hA12 := At.of hb12
        refine Q_then ?_
        refine K_seq ?_
        refine K_region ?_
        refine KA (A_alloc z25) rfl fun b14 => ?_
        refine K_nil ?_
        refine Q_then ?_
        refine K_seq ?_
        refine K_region ?_
        refine KV (R_move rfl) rfl ?_
        refine KV (R_loadH ty87 rfl (hA6.mono (hle3.trans (hle4.trans (hVa.trans (hV.trans hw1))))) rfl (fun _ => rfl) rfl) rfl ?_
        refine KV (R_nilCheck rfl) rfl ?_
        refine KV (R_fieldAddr 6 fd95_3 rfl) rfl ?_
        refine KV (R_loadO ty92 5 rfl rfl rfl rfl (fun _ => rfl) rfl) rfl ?_
        refine KV (R_len sl92 rfl) rfl ?_
        refine KV (R_makeFunc rfl rfl) rfl ?_
        refine KO_nilrow 3 1 ?_
        refine KO_sel [1, 0, 4, 4, 4, 4, 0, 0, 0, 0, 0, 0] rfl ?_
        have hrs := haok.rk s hs'
        obtain ⟨nn, hnn⟩ : ∃ nn : Nat, a.ranks[s] = (nn : Int) := ⟨a.ranks[s].toNat, by omega⟩
        have hnt : a.ranks[s].toNat = nn := by omega
        have hext : (ext st.subs.length nn []).length ≤ 262144 := by rw [ext_len]; exact pow_le2 (by omega) (by omega)
        have hvis : VisitOk Tryd.prog 49 [ptr b14, ptr b6, ptr b12] W1 (ext st.subs.length nn []) (fun pre q => ∃ oa ocp, q = [blk b14 (.cells #[.slice oa (pre.map (valM st s)).length ocp] 25 (0, 0)), row (.slice oa (pre.map (valM st s)).length ocp) 3 1 (pre.map (valM st s)).length (ints (pre.map (valM st s))), blk B (.cells #[.slice (some ⟨rb, ro, none⟩) a.ranks.length rcp, .int .i64 a.states, vu, vf, vrules, mp m1, .slice sa st.subs.length scp, mp m2] 95 (0, 0)), mapO m1 (numKV st.subs), row (.slice sa st.subs.length scp) 98 16 st.subs.length (subCells st.subs), mapO m2 (resKV st.res)]) (fun _ => False) := by
          rintro G pre xs xa len cp p hlen hle ⟨oa, ocp, rfl⟩ hpf hxs hcp
          have hpl := hpf.length_le
          rw [List.length_append] at hpl
          refine SatO.mono' (outc_spec a st (limM most) s xs (pre.map (valM st s)) B m1 m2 b14 b6 b12 _ vu vf vrules _ _ oa ocp G hinv hxs (by omega) (by rw [List.length_map]; omega) (hA6.mono (hle3.trans (hle4.trans (hVa.trans (hV.trans (hw1.trans hle)))))) (hA12.mono hle)) ?_
          rintro v H' q ⟨rfl, oa', ocp', rfl⟩
          refine ⟨true, rfl, fun _ => ⟨oa', ocp', ?_⟩, fun e => by cases e⟩
          simp only [List.map_append, List.map_cons, List.map_nil, List.length_append, List.length_cons, List.length_nil]

        refine K_callO (first := []) [_, _, _, _, _, _] [_, _, _, _, _, _] (List.Perm.refl _) c48 rfl rfl rfl (hnn ▸ tuples_spec nn st.subs.length 49 [ptr b14, ptr b6, ptr b12] _ _ W1 _ hvis c49 (by omega) (by omega) ⟨none, 0, rfl⟩) ?_
        rintro _ U q hu ⟨r, rfl, hr1, hr2⟩
        obtain rfl : r = true := by
          cases r with
          | false => exact (hr2 rfl).elim
          | true => rfl
        obtain ⟨oa, ocp, rfl⟩ := hr1 rfl
        refine K_nil ?_
        refine KQ_front 1 rfl ?_
        refine KQ_pubrow rfl fun U2 hu2 hrowO => ?_
        refine Q_then ?_
        refine K_region ?_
        refine KV (R_fieldAddr 2 fd54_2 rfl) rfl ?_
        refine KV (R_loadO ty44 7 rfl rfl rfl rfl (fun _ => rfl) rfl) rfl ?_
        refine KV (R_loadO ty25 0 rfl rfl rfl rfl (fun _ => rfl) rfl) rfl ?_
        refine KA (A_buildSlice (vs := [.slice oa ((ext st.subs.length nn []).map (valM st s)).length ocp]) sl44 ty25 z25 rfl rfl (by simp [Value.cells]) (by simp) rfl (by decide)) rfl fun b71 => ?_
        refine K_append1 5 ap44 rfl rfl rfl rfl rfl rfl ⟨by omega, by omega⟩ rfl fun a72 k72 hn72 => ?_
        refine KV (R_fieldAddr 2 fd54_2 rfl) rfl ?_
        refine K_store ty44 7 rfl rfl rfl rfl rfl rfl ?_
        refine K_nil ?_
        refine Q_block ?_
        refine Q_then ?_
        refine K_region ?_
        refine KV (R_add rfl rfl (by omega)) rfl ?_
        refine KV (R_move rfl) rfl ?_
        refine K_nil ?_
        refine KQ_sel [0, 5, 5, 5, 1, 1, 1, 1, 1, 1] rfl ?_
        refine Q_next (s + 1, U2, .slice a72 (s + 1) k72, cells ++ [.slice oa ((ext st.subs.length nn []).map (valM st s)).length ocp]) ⟨hs', hV.trans (hw1.trans (hu.trans hu2)), ?_, _, _, rfl⟩ (by dsimp only; omega) ⟨rfl, rfl, rfl, rfl, rfl, rfl, rfl, trivial⟩ rfl rfl
        dsimp only
        rw [range_map_succ]
        have htm : toM a st s = (ext st.subs.length nn []).map (valM st s) := by
          have h : a.ranks.getD s 0 = a.ranks[s] := by simp [List.getD, hs']
          simp only [toM]
          rw [h, hnt]
        rw [htm]
        refine (hR.imp fun _ _ h => h.mono (hw1.trans (hu.trans hu2))).snoc ⟨_, rfl, hrowO.sl, ?_⟩ rfl
        intro x hx
        obtain ⟨ys, _, rfl⟩ := List.mem_map.1 hx
        exact valM_ok hinv (by omega) _ _
      ·
        have hs' : s = a.ranks.length := by omega
        subst hs'
        refine K_exit ?_
        refine Q_then_exit ?_
        refine Q_then_exit ?_
        refine Q_block_exit ?_
        refine Q_then ?_
        refine K_seq ?_
        refine K_region ?_
        refine KV (R_loadO ty54 2 rfl rfl rfl rfl (fun e => by cases e) rfl) rfl ?_
        refine K_store ty54 8 rfl rfl rfl rfl rfl rfl ?_
        refine KV (R_assign rfl) rfl ?_
        refine K_nil ?_
        refine Q_then ?_
        refine K_ret ?_
        refine KQ_front 1 rfl ?_
        refine KQ_pubrow rfl fun HpA hpA hrowA => ?_
        refine KQ_pubrow rfl fun HpB hpB hrowB => ?_
        refine results_gen (rs := [.cell 4 54, .tmp 5]) (vs := [_, _]) rfl ⟨⟨_, _, _, _, _, _, 6, rfl, rfl, ty54, (fun e => by cases e), rfl, rfl⟩, ⟨rfl, trivial⟩⟩ ?_
        rw [hcs, hc0]
        have hal : (accM a st).length = st.subs.length := by simp [accM]
        have hta : (accM a st).take st.subs.length = accM a st := by rw [← hal, List.take_length]
        have hA := hrowA.sl
        rw [hta] at hA
        refine ⟨_, _, _, rfl, ⟨hrc.mono (hVa.trans (hV.trans (hpA.trans hpB))), ?_, cells, ?_, hR.imp fun _ _ h => h.mono (hpA.trans hpB)⟩⟩
        · show SlAt _ _ (accM a st).length _
          rw [hal]
          exact hA.mono hpB
        · have hB := hrowB.sl
          simpa [fromM] using hB
end Go.Proofs.X
