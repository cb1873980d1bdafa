/-
  Part of the proof: contracts of the functions that the statements reach. Own work. No statement of the seat is proved here.
-/
import Derived.Test.YtbelekbnjiajaaaDoorPalYE
import Derived.Test.YtbelekbnjiajaaaDoorProg
namespace Go.Proofs.X
open Go Pal Go.Proofs
attribute [local irreducible] Pal.KO Pal.KC Pal.KQ Pal.KD
theorem sl44 : slcOk Tryd.prog 44 25 := by unfold slcOk; kernel_rfl
theorem z25 : zeroOk Tryd.prog 25 (.slice none 0 0) := .of (by kernel_rfl)
theorem c42 : callable Tryd.prog 42 = true := by kernel_rfl
theorem c43 : callable Tryd.prog 43 = true := by kernel_rfl
theorem ap44 : App Tryd.prog 44 25 1 24 := .of sl44 (by kernel_rfl)
theorem subsets_spec (a : Au) (most : Int) (vr vu vf : Value) (H : View) (hT : Tab H) (ha : RepAu H a vr vu vf) : Sat Tryd.prog 16 #[.agg #[vr, .int .i64 a.states, vu, vf], .int .i64 most] H
    (fun v H' => ∃ w, v = .tuple #[w, .int .i64 (consM a most).1] ∧ SSI H' w (match (consM a most).2 with | none => [] | some st => st.subs.map els)) := by
  refine enterO (n := 36) (args := [.agg #[vr, .int .i64 a.states, vu, vf], .int .i64 most]) Tryd.func16 rfl rfl rfl fun w0 => ?_
  refine K_seq ?_
  refine K_region ?_
  refine KA (A_box rfl) rfl fun b2 => ?_
  refine KV (R_assign rfl) rfl ?_
  refine KV (R_assign rfl) rfl ?_
  refine K_nil ?_
  refine Q_then ?_
  refine K_seq ?_
  refine K_region ?_
  refine KV (R_loadO ty50 0 rfl rfl rfl rfl (fun e => by cases e) rfl) rfl ?_
  refine KV (R_move rfl) rfl ?_
  refine K_callO (first := []) [] [_] (List.Perm.refl _) c42 rfl rfl rfl (cons_spec a most vr vu vf H ha) ?_
  rintro _ V1 q hle1 ⟨pv, rfl, hpv⟩
  refine KV (R_move rfl) rfl ?_
  refine KV (R_extract rfl rfl) rfl ?_
  refine KV (R_extract rfl rfl) rfl ?_
  refine KV (R_assign rfl) rfl ?_
  refine KV (R_assign rfl) rfl ?_
  refine K_nil ?_
  refine Q_then ?_
  refine K_seq ?_
  refine K_seq ?_
  refine K_region ?_
  refine KV (R_move rfl) rfl ?_
  refine KV (R_cmp rfl rfl rfl) rfl ?_
  refine K_nil ?_
  refine Q_then ?_
  refine K_if rfl (fun h18 => ?_) (fun h18 => ?_)
  ·
    have hcn := consM_ne h18
    refine K_seq ?_
    refine K_region ?_
    refine KV (R_move rfl) rfl ?_
    refine KV (R_assign rfl) rfl ?_
    refine KV (R_assign rfl) rfl ?_
    refine K_nil ?_
    refine Q_then ?_
    refine K_ret ?_
    refine Q_then_ret ?_
    refine results_gen (rs := [.tmp 4, .tmp 5]) (vs := [_, _]) rfl ⟨rfl, ⟨rfl, trivial⟩⟩ ?_
    rw [hcn]
    exact ⟨_, rfl, SSI.nil _ none 0⟩
  ·
    obtain ⟨st, hcs⟩ := consM_eq (a := a) (most := most) (by omega)
    have hc0 : (consM a most).1 = 0 := by omega
    rw [hcs] at hpv
    obtain ⟨B, m1, m2, vrules, rfl, haok, hinv, hby, vsub, hvs, rfl⟩ := hpv
    obtain ⟨sa, scp, rfl⟩ := hvs.shape
    have hle := hinv.le
    have hlm : limM most ≤ 512 := by simp only [limM]; split <;> omega
    refine K_skip ?_
    refine Q_then ?_
    refine K_seq ?_
    refine K_region ?_
    refine KV (R_assign rfl) rfl ?_
    refine K_nil ?_
    refine Q_then ?_
    refine K_seq ?_
    refine K_seq ?_
    refine K_region ?_
    refine KV (R_move rfl) rfl ?_
    refine KV (R_nilCheck rfl) rfl ?_
    refine KV (R_fieldAddr 6 fd95_3 rfl) rfl ?_
    refine KV (R_loadO ty92 0 rfl rfl rfl rfl (fun _ => rfl) rfl) rfl ?_
    refine KV (R_len sl92 rfl) rfl ?_
    refine KV (R_move rfl) rfl ?_
    refine K_nil ?_
    refine Q_then ?_
    refine K_block ?_
    refine K_nilrow 25 1 ?_
    refine K_loop (G := Nat × View × Value × List Value) ⟨fun g => [(2, ptr b2), (8, g.2.2.1), (23, .slice sa st.subs.length scp), (24, .int .i64 st.subs.length), (25, .int .i64 (g.1 : Int))], fun g => [row g.2.2.1 25 1 g.1 g.2.2.2, blk B (.cells #[vr, .int .i64 a.states, vu, vf, vrules, mp m1, .slice sa st.subs.length scp, mp m2] 95 (0, 0)), mapO m1 (numKV st.subs), row (.slice sa st.subs.length scp) 98 16 st.subs.length (subCells st.subs), mapO m2 (resKV st.res), blk b2 (.cells #[vr, .int .i64 a.states, vu, vf] 50 (0, 0))], fun g => g.2.1, fun g => g.1 ≤ st.subs.length ∧ VLe V1 g.2.1 ∧ RepL (RSI g.2.1) 1 ((st.subs.take g.1).map els) g.2.2.2 ∧ ∃ ad cp, g.2.2.1 = .slice ad g.1 cp, fun g => st.subs.length - g.1⟩ (0, V1, nilS, []) ⟨Nat.zero_le _, VLe.refl V1, .nil, none, 0, rfl⟩ ⟨rfl, rfl, rfl, rfl, rfl, trivial⟩ rfl rfl ?_
    rintro ⟨k, V, w, cells⟩ ⟨hk, hV, hR, hw⟩
    dsimp only at hk hV hR hw ⊢
    obtain ⟨wa, wcp, rfl⟩ := hw
    refine K_seq ?_
    refine K_region ?_
    refine KV (R_cmp rfl rfl rfl) rfl ?_
    refine K_nil ?_
    refine Q_then ?_
    refine K_seq ?_
    refine K_if rfl (fun h26 => ?_) (fun h26 => ?_)
    ·
      have hk' : k < st.subs.length := by omega
      obtain ⟨sg, scp2, hse⟩ : ∃ g cap, Value.slice sa st.subs.length scp = .slice (some ⟨g, 0, none⟩) st.subs.length cap := by
        rcases hvs with ⟨_, h0⟩ | h
        · omega
        · exact h
      cases hse
      refine K_skip ?_
      refine Q_then ?_
      refine K_seq ?_
      refine K_block ?_
      refine K_seq ?_
      refine K_region ?_
      refine KV (R_indexN sl92 ty98 rfl rfl (by omega)) rfl ?_
      refine KV (R_loadRow (v := setV st.subs[k]) ty98 3 rfl rfl rfl (by rw [Nat.zero_add]; exact subCells_get hk') rfl (fun e => by cases e) rfl) rfl ?_
      refine KA (A_alloc z98) rfl fun b10 => ?_
      refine K_storeW ty98 0 rfl rfl rfl rfl rfl rfl rfl ?_
      refine K_nil ?_
      refine Q_then ?_
      refine K_region ?_
      refine KV (R_move rfl) rfl ?_
      refine KV (R_loadW ty98 0 rfl rfl rfl (show Value.agg _ = setV st.subs[k] from rfl)) rfl ?_
      refine K_call c43 rfl rfl (elements_spec st.subs[k] (hinv.bg _ (List.getElem_mem hk')) V (hT.mono (hle1.trans hV))) ?_
      rintro u V2 hle2 hu
      obtain ⟨ea, ecp, rfl⟩ := hu.shape
      refine KA (A_buildSlice (vs := [.slice ea (els st.subs[k]).length ecp]) sl44 ty25 z25 rfl rfl (by simp [Value.cells]) (by simp) rfl (by decide)) rfl fun b32 => ?_
      refine K_append1 1 ap44 rfl rfl rfl rfl rfl rfl ⟨by omega, by omega⟩ rfl fun a33 k33 hn33 => ?_
      refine KV (R_assign rfl) rfl ?_
      refine K_nil ?_
      refine Q_block ?_
      refine Q_then ?_
      refine K_region ?_
      refine KV (R_add rfl rfl (by omega)) rfl ?_
      refine KV (R_move rfl) rfl ?_
      refine K_nil ?_
      refine KQ_sel [0, 1, 1, 1, 1, 1] rfl ?_
      refine Q_next (k + 1, V2, .slice a33 (k + 1) k33, cells ++ [.slice ea (els st.subs[k]).length ecp]) ⟨hk', hV.trans hle2, ?_, _, _, rfl⟩ (by dsimp only; omega) ⟨rfl, rfl, rfl, rfl, rfl, trivial⟩ rfl rfl
      dsimp only
      rw [take_map_succ hk']
      exact (hR.imp fun _ _ h => h.mono hle2).snoc ⟨_, rfl, hu⟩ rfl
    ·
      have hk' : k = st.subs.length := by omega
      subst hk'
      rw [List.take_length] at hR
      refine K_exit ?_
      refine Q_then_exit ?_
      refine Q_then_exit ?_
      refine Q_block_exit ?_
      refine Q_then ?_
      refine K_seq ?_
      refine K_region ?_
      refine KV (R_move rfl) rfl ?_
      refine KV (R_assign rfl) rfl ?_
      refine KV (R_assign rfl) rfl ?_
      refine K_nil ?_
      refine Q_then ?_
      refine K_ret ?_
      refine KQ_pubrow rfl fun Hp hp hrow => ?_
      refine results_gen (rs := [.tmp 4, .tmp 5]) (vs := [_, _]) rfl ⟨rfl, ⟨rfl, trivial⟩⟩ ?_
      rw [hcs, hc0]
      exact ⟨_, rfl, cells, by simpa using hrow.sl, hR.imp fun _ _ h => h.mono hp⟩
end Go.Proofs.X
