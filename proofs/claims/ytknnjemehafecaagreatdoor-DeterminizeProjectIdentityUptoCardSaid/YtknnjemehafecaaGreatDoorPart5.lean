/-
  Part of the proof: rules for walks, contracts of the functions that the statements reach, plain laws. Own work. No statement of the seat is proved here.
-/
import Derived.Test.YtknnjemehafecaaGreatDoorPart2
import Derived.Test.YtknnjemehafecaaGreatDoorPart4
import Derived.Test.YtknnjemehafecaaGreatDoorPart1
import Derived.ChangeArms
import Derived.ChangeSame
import Derived.WideKeyArgs
import Derived.Lib.LaidTab
namespace Go.Proofs.X
open Go Pal Go.Proofs
attribute [local irreducible] Pal.KO Pal.KC Pal.KQ Pal.KD

theorem nfits_spec (ls src dst : List Int) (v1 v2 v3 : Value) (H : View) (h1 : SI H v1 ls) (h2 : SI H v2 src) (h3 : SI H v3 dst) (hb1 : ls.length ≤ 1099511627776) : Sat Tryz.prog F2052 #[v1, v2, v3] H (fun r _ => r = .bool (mapsM ls src dst)) := by
  obtain ⟨a1, k1, rfl⟩ := h1.shape
  obtain ⟨a2, k2, rfl⟩ := h2.shape
  obtain ⟨a3, k3, rfl⟩ := h3.shape
  refine enterO (n := 41) (args := [.slice a1 ls.length k1, .slice a2 src.length k2, .slice a3 dst.length k3]) Tryz.func76 rfl rfl rfl fun w0 => ?_
  refine K_seq ?_
  refine K_region ?_
  refine KV (R_assign rfl) rfl ?_
  refine K_nil ?_
  refine Q_then ?_
  refine K_seq ?_
  refine K_seq ?_
  refine K_region ?_
  refine KV (R_move rfl) rfl ?_
  refine KV (R_len sl25 rfl) rfl ?_
  refine KV (R_move rfl) rfl ?_
  refine KV (R_len sl47 rfl) rfl ?_
  refine KV (R_cmp rfl rfl rfl) rfl ?_
  refine K_nil ?_
  refine Q_then ?_
  refine K_if rfl (fun h13 => ?_) (fun h13 => ?_)
  ·
    refine K_seq ?_
    refine K_region ?_
    refine KV (R_assign rfl) rfl ?_
    refine K_nil ?_
    refine Q_then ?_
    refine K_ret ?_
    refine Q_then_ret ?_
    refine results_gen (rs := [.tmp 6]) (vs := [_]) rfl ⟨rfl, trivial⟩ ?_
    refine congrArg Value.bool (Eq.symm ?_)
    first
      | exact mapsM_iff.2 ⟨by omega, fun j h h2 => hyes j h h2 (by omega)⟩
      | (rw [Bool.eq_false_iff]; intro hm; obtain ⟨g1, g2⟩ := mapsM_iff.1 hm; first | omega | (have g3 := g2 k hk' hk2; first | omega | (rw [hgd] at g3; omega)))
  ·
    refine K_skip ?_
    refine Q_then ?_
    refine K_seq ?_
    refine K_seq ?_
    refine K_region ?_
    refine KV (R_move rfl) rfl ?_
    refine KV (R_len sl25 rfl) rfl ?_
    refine KV (R_move rfl) rfl ?_
    refine K_nil ?_
    refine Q_then ?_
    refine K_block ?_
    refine K_loopD (G := Nat) [6, 7, 8, 16, 17, 18, 19, 20, 21, 22, 23, 24, 25, 26, 27, 28, 29, 30, 31, 32, 33, 34, 35, 36, 37, 38, 39, 40] (fun g => [(16, .int .i64 (g : Int))]) (fun hl g => hl) (fun g => H) (fun g => (g ≤ ls.length) ∧ (∀ j (h : j < ls.length) (h2 : j < src.length), j < g → (0 ≤ ls[j] ∧ ls[j] < dst.length) ∧ dst.getD ls[j].toNat 0 = src[j])) (fun g => ls.length - g) 0 ⟨Nat.zero_le _, fun j _ _ h => by simp at h⟩ ⟨rfl, trivial⟩ (by simp only [args0, Nat.reduceAdd, del, memN, beqN, Nat.reduceBEq, cond_true, cond_false]; rfl) rfl rfl ?_
    rintro k ⟨hk, hyes⟩
    try dsimp only at hk
    try dsimp only at hyes
    dsimp only [List.set, List.cons_append, List.nil_append]
    refine K_seq ?_
    refine K_region ?_
    refine KV (R_cmp rfl rfl rfl) rfl ?_
    refine K_nil ?_
    refine Q_then ?_
    refine K_seq ?_
    refine K_if rfl (fun h17 => ?_) (fun h17 => ?_)
    ·
      have hk' : k < ls.length := by omega
      have hk2 : k < src.length := by omega
      obtain ⟨tb, to_, hte, hta⟩ := h1.get hk'
      cases hte
      obtain ⟨sb, so, hse, hsx⟩ := h2.get hk2
      cases hse
      refine K_skip ?_
      refine Q_then ?_
      refine K_seq ?_
      refine K_block ?_
      refine K_seq ?_
      refine K_region ?_
      refine KV (R_move rfl) rfl ?_
      refine KV (R_indexN sl25 ty3 rfl rfl (by omega)) rfl ?_
      refine KV (R_loadH ty3 rfl (hta) rfl (fun _ => rfl) rfl) rfl ?_
      refine KV (R_assign rfl) rfl ?_
      refine KV (R_assign rfl) rfl ?_
      refine K_nil ?_
      refine Q_then ?_
      refine K_seq ?_
      refine K_regionD (fin := false) (R := [0, 1, 2, 3, 4, 5, 6, 7, 8, 9, 10, 11, 12, 13, 14, 15, 16, 17, 18]) (by kernel_rfl) mixed (List.nil_sublist _) ?_
      refine D_val rfl rfl rfl (R_move rfl) ?_
      refine D_val rfl rfl rfl (R_cmp rfl rfl rfl) ?_
      refine D_val rfl rfl rfl (R_move rfl) ?_
      refine D_split ?_ ?_
      ·
        intro h23
        refine D_skip rfl rfl ?_
        refine D_skip rfl rfl ?_
        refine D_skip rfl rfl ?_
        refine D_skip rfl rfl ?_
        refine D_val rfl rfl rfl (R_pickT rfl rfl) ?_
        refine D_val rfl rfl rfl (R_move rfl) ?_
        refine D_skip rfl rfl ?_
        refine D_skip rfl rfl ?_
        refine D_skip rfl rfl ?_
        refine D_skip rfl rfl ?_
        refine D_skip rfl rfl ?_
        refine D_skip rfl rfl ?_
        refine D_skip rfl rfl ?_
        refine D_skip rfl rfl ?_
        refine D_skip rfl rfl ?_
        refine D_val rfl rfl rfl (R_pickT rfl rfl) ?_
        refine D_done ?_
        refine Q_then ?_
        refine K_ifT rfl ?_
        refine K_seq ?_
        refine K_region ?_
        refine KV (R_assign rfl) rfl ?_
        refine K_nil ?_
        refine Q_then ?_
        refine K_ret ?_
        refine Q_block_ret ?_
        refine Q_then_ret ?_
        refine Q_then_ret ?_
        refine Q_block_ret ?_
        refine Q_then_ret ?_
        refine results_gen (rs := [.tmp 6]) (vs := [_]) rfl ⟨rfl, trivial⟩ ?_
        refine congrArg Value.bool (Eq.symm ?_)
        first
          | exact mapsM_iff.2 ⟨by omega, fun j h h2 => hyes j h h2 (by omega)⟩
          | (rw [Bool.eq_false_iff]; intro hm; obtain ⟨g1, g2⟩ := mapsM_iff.1 hm; first | omega | (have g3 := g2 k hk' hk2; first | omega | (rw [hgd] at g3; omega)))
      ·
        intro h23
        refine D_val rfl rfl rfl (R_move rfl) ?_
        refine D_val rfl rfl rfl (R_move rfl) ?_
        refine D_val rfl rfl rfl (R_len sl47 rfl) ?_
        refine D_val rfl rfl rfl (R_cmp rfl rfl rfl) ?_
        refine D_val rfl rfl rfl (R_pickF rfl rfl) ?_
        refine D_val rfl rfl rfl (R_move rfl) ?_
        refine D_split ?_ ?_
        ·
          intro h29
          refine D_skip rfl rfl ?_
          refine D_skip rfl rfl ?_
          refine D_skip rfl rfl ?_
          refine D_skip rfl rfl ?_
          refine D_skip rfl rfl ?_
          refine D_skip rfl rfl ?_
          refine D_skip rfl rfl ?_
          refine D_skip rfl rfl ?_
          refine D_skip rfl rfl ?_
          refine D_val rfl rfl rfl (R_pickT rfl rfl) ?_
          refine D_done ?_
          refine Q_then ?_
          refine K_ifT rfl ?_
          refine K_seq ?_
          refine K_region ?_
          refine KV (R_assign rfl) rfl ?_
          refine K_nil ?_
          refine Q_then ?_
          refine K_ret ?_
          refine Q_block_ret ?_
          refine Q_then_ret ?_
          refine Q_then_ret ?_
          refine Q_block_ret ?_
          refine Q_then_ret ?_
          refine results_gen (rs := [.tmp 6]) (vs := [_]) rfl ⟨rfl, trivial⟩ ?_
          refine congrArg Value.bool (Eq.symm ?_)
          first
            | exact mapsM_iff.2 ⟨by omega, fun j h h2 => hyes j h h2 (by omega)⟩
            | (rw [Bool.eq_false_iff]; intro hm; obtain ⟨g1, g2⟩ := mapsM_iff.1 hm; first | omega | (have g3 := g2 k hk' hk2; first | omega | (rw [hgd] at g3; omega)))
        ·
          intro h29
          have hx1 : ls[k].toNat < dst.length := by omega
          obtain ⟨db, do_, hde, hdx⟩ := h3.get hx1
          cases hde
          have hgd : dst.getD ls[k].toNat 0 = dst[ls[k].toNat] := by simp [List.getD, hx1]
          refine D_val rfl rfl rfl (R_move rfl) ?_
          refine D_val rfl rfl rfl (R_move rfl) ?_
          refine D_val rfl rfl rfl (R_index sl47 ty3 rfl rfl ⟨by omega, by omega⟩) ?_
          refine D_val rfl rfl rfl (R_loadH ty3 rfl (hdx) rfl (fun _ => rfl) rfl) ?_
          refine D_val rfl rfl rfl (R_move rfl) ?_
          refine D_val rfl rfl rfl (R_move rfl) ?_
          refine D_val rfl rfl rfl (R_indexN sl47 ty3 rfl rfl (by omega)) ?_
          refine D_val rfl rfl rfl (R_loadH ty3 rfl (hsx) rfl (fun _ => rfl) rfl) ?_
          refine D_val rfl rfl rfl (R_cmp rfl rfl rfl) ?_
          refine D_val rfl rfl rfl (R_pickF rfl rfl) ?_
          refine D_done ?_
          refine Q_then ?_
          refine K_if rfl (fun h39 => ?_) (fun h39 => ?_)
          ·
            refine K_seq ?_
            refine K_region ?_
            refine KV (R_assign rfl) rfl ?_
            refine K_nil ?_
            refine Q_then ?_
            refine K_ret ?_
            refine Q_block_ret ?_
            refine Q_then_ret ?_
            refine Q_then_ret ?_
            refine Q_block_ret ?_
            refine Q_then_ret ?_
            refine results_gen (rs := [.tmp 6]) (vs := [_]) rfl ⟨rfl, trivial⟩ ?_
            refine congrArg Value.bool (Eq.symm ?_)
            first
              | exact mapsM_iff.2 ⟨by omega, fun j h h2 => hyes j h h2 (by omega)⟩
              | (rw [Bool.eq_false_iff]; intro hm; obtain ⟨g1, g2⟩ := mapsM_iff.1 hm; first | omega | (have g3 := g2 k hk' hk2; first | omega | (rw [hgd] at g3; omega)))
          ·
            have hyes2 : ∀ j (h : j < ls.length) (h2 : j < src.length), j < k + 1 → (0 ≤ ls[j] ∧ ls[j] < dst.length) ∧ dst.getD ls[j].toNat 0 = src[j] := by
              intro j h h2 hj
              by_cases e : j = k
              · subst e; exact ⟨by omega, by rw [hgd]; omega⟩
              · exact hyes j h h2 (by omega)
            refine K_skip ?_
            refine Q_block ?_
            refine Q_then ?_
            refine K_region ?_
            refine KV (R_add rfl rfl (by omega)) rfl ?_
            refine KV (R_move rfl) rfl ?_
            refine K_nil ?_
            refine Q_nextD (k + 1) ⟨hk', hyes2⟩ (by (try dsimp only); omega) ⟨rfl, trivial⟩ rfl rfl rfl
    ·
      have hk' : k = ls.length := by omega
      refine K_exit ?_
      refine Q_then_exit ?_
      refine Q_then_exit ?_
      refine Q_block_exit ?_
      refine Q_then ?_
      refine K_seq ?_
      refine K_region ?_
      refine KV (R_assign rfl) rfl ?_
      refine K_nil ?_
      refine Q_then ?_
      refine K_ret ?_
      refine results_gen (rs := [.tmp 6]) (vs := [_]) rfl ⟨rfl, trivial⟩ ?_
      refine congrArg Value.bool (Eq.symm ?_)
      first
        | exact mapsM_iff.2 ⟨by omega, fun j h h2 => hyes j h h2 (by omega)⟩
        | (rw [Bool.eq_false_iff]; intro hm; obtain ⟨g1, g2⟩ := mapsM_iff.1 hm; first | omega | (have g3 := g2 k hk' hk2; first | omega | (rw [hgd] at g3; omega)))

theorem turnedE_spec (a : Au) (rk : List Int) (vr vu vf kv : Value) (H : View) (ha : RepAu H a vr vu vf) (hk : SI H kv rk) (hkl : rk.length ≤ 1099511627776) : Sat Tryz.prog F2051 #[.agg #[vr, .int .i64 a.states, vu, vf], kv] H (fun r _ => r = .int .i64 (turnErr a rk)) := by
  obtain ⟨ar, arc, rfl⟩ := ha.r.shape
  obtain ⟨af, afc, rfl⟩ := ha.f.shape
  obtain ⟨au, auc, rfl⟩ := ha.ushape
  obtain ⟨ka, kc, rfl⟩ := hk.shape
  refine enterO (n := 13) (args := [.agg #[.slice ar a.ranks.length arc, .int .i64 a.states, .slice au a.rules.length auc, .slice af a.final.length afc], .slice ka rk.length kc]) Tryz.func75 rfl rfl rfl fun w0 => ?_
  refine K_seq ?_
  refine K_region ?_
  refine KA (A_box rfl) rfl fun b2 => ?_
  refine KV (R_assign rfl) rfl ?_
  refine K_nil ?_
  refine Q_then ?_
  refine K_seq ?_
  refine K_seq ?_
  refine K_region ?_
  refine KV (R_loadW ty50 0 rfl rfl rfl rfl) rfl ?_
  refine K_call c77 rfl rfl (ncheck_spec a _ _ _ H ha) ?_
  rintro _ V1 hv1 rfl
  refine KV (R_assign rfl) rfl ?_
  refine K_nil ?_
  refine Q_then ?_
  refine K_seq ?_
  refine K_region ?_
  refine KV (R_move rfl) rfl ?_
  refine KV (R_cmp rfl rfl rfl) rfl ?_
  refine K_nil ?_
  refine Q_then ?_
  refine K_if rfl (fun h9 => ?_) (fun h9 => ?_)
  ·
    refine K_seq ?_
    refine K_region ?_
    refine KV (R_move rfl) rfl ?_
    refine KV (R_assign rfl) rfl ?_
    refine K_nil ?_
    refine Q_then ?_
    refine K_ret ?_
    refine Q_then_ret ?_
    refine results_gen (rs := [.tmp 4]) (vs := [_]) rfl ⟨rfl, trivial⟩ ?_
    exact congrArg (Value.int .i64) (if_pos h9).symm
  ·
    refine K_skip ?_
    refine Q_then ?_
    refine K_seq ?_
    refine K_region ?_
    refine KV (R_move rfl) rfl ?_
    refine K_call c72 rfl rfl (acheck_spec rk _ V1 (hk.mono hv1) hkl) ?_
    rintro _ V2 hv2 rfl
    refine KV (R_assign rfl) rfl ?_
    refine K_nil ?_
    refine Q_then ?_
    refine K_ret ?_
    refine results_gen (rs := [.tmp 4]) (vs := [_]) rfl ⟨rfl, trivial⟩ ?_
    exact congrArg (Value.int .i64) (if_neg h9).symm
end Go.Proofs.X

namespace Go.Proofs.X
open Go Pal Go.Proofs
attribute [local irreducible] Pal.KO Pal.KC Pal.KQ Pal.KD
theorem c2045 : callable Tryz.prog F2045 = true := by kernel_rfl
theorem c2051 : callable Tryz.prog F2051 = true := by kernel_rfl
theorem c2052 : callable Tryz.prog F2052 = true := by kernel_rfl
theorem relabelN_spec (a : Au) (l rk : List Int) (vr vu vf lv kv : Value) (H : View) (ha : RepAu H a vr vu vf) (hl : SI H lv l) (hk : SI H kv rk) (hll : l.length ≤ 1048576) (hkl : rk.length ≤ 1048576) : Sat Tryz.prog F2023 #[.agg #[vr, .int .i64 a.states, vu, vf], lv, kv] H (fun r H' => ∃ v1 v2 v3, r = .tuple #[.agg #[v1, .int .i64 (errAu (relErr a l rk) (normA (imgA a l rk))).states, v2, v3], .int .i64 (relErr a l rk)] ∧ RepAu H' (errAu (relErr a l rk) (normA (imgA a l rk))) v1 v2 v3) := by
  obtain ⟨ar, arc, rfl⟩ := ha.r.shape
  obtain ⟨af, afc, rfl⟩ := ha.f.shape
  obtain ⟨au, auc, rfl⟩ := ha.ushape
  obtain ⟨la, lc, rfl⟩ := hl.shape
  obtain ⟨ka, kc, rfl⟩ := hk.shape
  have hul := ha.ul
  have hfl := ha.fl
  have hrl := ha.rl
  have hab := ha.b
  refine enterO (n := 52) (args := [.agg #[.slice ar a.ranks.length arc, .int .i64 a.states, .slice au a.rules.length auc, .slice af a.final.length afc], .slice la l.length lc, .slice ka rk.length kc]) Tryz.func33 rfl rfl rfl fun w0 => ?_
  refine K_seq ?_
  refine K_region ?_
  refine KA (A_box rfl) rfl fun b3 => ?_
  refine KA (A_alloc z50) rfl fun b6 => ?_
  refine KV (R_assign rfl) rfl ?_
  refine K_nil ?_
  refine Q_then ?_
  refine K_seq ?_
  refine K_seq ?_
  refine K_region ?_
  refine KV (R_loadW ty50 1 rfl rfl rfl rfl) rfl ?_
  refine KV (R_move rfl) rfl ?_
  refine K_call c2051 rfl rfl (turnedE_spec a rk _ _ _ _ H ha hk (by omega)) ?_
  rintro _ V1 hv1 rfl
  refine KV (R_assign rfl) rfl ?_
  refine K_nil ?_
  refine Q_then ?_
  refine K_seq ?_
  refine K_region ?_
  refine KV (R_move rfl) rfl ?_
  refine KV (R_cmp rfl rfl rfl) rfl ?_
  refine K_nil ?_
  refine Q_then ?_
  refine K_if rfl (fun hte => ?_) (fun hte => ?_)
  ·
    refine K_seq ?_
    refine K_region ?_
    refine KV (R_build z50 pl50 rfl rfl) rfl ?_
    refine KV (R_move rfl) rfl ?_
    refine K_storeW ty50 0 rfl rfl rfl rfl rfl rfl rfl ?_
    refine KV (R_assign rfl) rfl ?_
    refine K_nil ?_
    refine Q_then ?_
    refine K_ret ?_
    refine Q_then_ret ?_
    refine results_gen (rs := [.cell 6 71, .tmp 7]) (vs := [_, _]) rfl ⟨⟨_, _, _, _, _, _, 0, rfl, rfl, ty50, (fun e => by cases e), rfl, rfl⟩, ⟨rfl, trivial⟩⟩ ?_
    have hE : relErr a l rk = turnErr a rk := by unfold relErr; rw [if_pos hte]
    rw [hE, errAu_no hte]
    exact ⟨nilS, nilS, nilS, rfl, RepAu.nil _⟩
  ·
    have hte0 := Decidable.not_not.1 hte
    have hae0 : auErr a = 0 := by
      unfold turnErr at hte0
      split at hte0
      · rename_i h; exact absurd hte0 h
      · rename_i h; exact Decidable.not_not.1 h
    have hok := AuOk.of hae0
    refine K_skip ?_
    refine Q_then ?_
    refine K_seq ?_
    refine K_seq ?_
    refine K_region ?_
    refine KV (R_move rfl) rfl ?_
    refine KV (R_fieldAddr 0 fd50_0 rfl) rfl ?_
    refine KV (R_loadO ty47 1 rfl rfl rfl rfl (fun _ => rfl) rfl) rfl ?_
    refine KV (R_move rfl) rfl ?_
    refine K_call c2052 rfl rfl (nfits_spec l a.ranks rk _ _ _ V1 (hl.mono hv1) (ha.mono hv1).r (hk.mono hv1) (by omega)) ?_
    rintro _ V2 hv2 rfl
    refine KV (R_not rfl) rfl ?_
    refine K_nil ?_
    refine Q_then ?_
    refine K_ifB rfl (fun h24 => ?_) (fun h24 => ?_)
    ·
      have hmf : mapsM l a.ranks rk = false := by simpa using h24
      refine K_seq ?_
      refine K_region ?_
      refine KV (R_build z50 pl50 rfl rfl) rfl ?_
      refine K_storeW ty50 0 rfl rfl rfl rfl rfl rfl rfl ?_
      refine KV (R_assign rfl) rfl ?_
      refine K_nil ?_
      refine Q_then ?_
      refine K_ret ?_
      refine Q_then_ret ?_
      refine results_gen (rs := [.cell 6 71, .tmp 7]) (vs := [_, _]) rfl ⟨⟨_, _, _, _, _, _, 0, rfl, rfl, ty50, (fun e => by cases e), rfl, rfl⟩, ⟨rfl, trivial⟩⟩ ?_
      have hE : relErr a l rk = 3 := by unfold relErr; rw [if_neg (not_not_intro hte0), if_neg (by rw [hmf]; exact Bool.noConfusion)]
      rw [hE, errAu_no (by decide)]
      exact ⟨nilS, nilS, nilS, rfl, RepAu.nil _⟩
    ·
      have hmt : mapsM l a.ranks rk = true := by simpa using h24
      obtain ⟨hm1, hm2⟩ := mapsM_iff.1 hmt
      refine K_skip ?_
      refine Q_then ?_
      refine K_seq ?_
      refine K_region ?_
      refine KV (R_loadW ty50 1 rfl rfl rfl rfl) rfl ?_
      refine K_callO (first := []) [] _ (List.Perm.refl _) c2037 rfl rfl rfl (nclone_spec a _ _ _ V2 (ha.mono (hv1.trans hv2))) ?_
      rintro _ V3 q hv3 ⟨⟨vr, ua, uc, fa, fc, ps, rfl, hcr, hps, rfl⟩, _⟩
      obtain ⟨cra, crc, rfl⟩ := hcr.shape
      have hpl : ps.length = a.rules.length := by rw [← hps]; simp
      dsimp only [List.cons_append, List.nil_append]
      refine KA (A_alloc z50) rfl fun b9 => ?_
      refine K_storeW ty50 0 rfl rfl rfl rfl rfl rfl rfl ?_
      refine K_nil ?_
      refine KQ_front 2 rfl ?_
      refine KQ_pubrow rfl fun V4 hv4 hfin => ?_
      try dsimp only [List.eraseIdx]
      refine KQ_front 2 rfl ?_
      refine KQ_pubmany (fun p hp => hab.u p.1 (by rw [← hps]; exact List.mem_map.2 ⟨p, hp, rfl⟩)) fun V5 hv5 hrv => ?_
      try dsimp only [List.eraseIdx]
      refine Q_then ?_
      refine K_seq ?_
      refine K_region ?_
      refine KV (R_move rfl) rfl ?_
      refine K_call c45 rfl rfl (clone47_spec rk _ V5 (hk.mono (hv1.trans (hv2.trans (hv3.trans (hv4.trans hv5))))) (by omega)) ?_
      rintro _ V6 hv6 hck
      obtain ⟨cka, ckc, rfl⟩ := hck.shape
      refine KV (R_fieldAddr 0 fd50_0 rfl) rfl ?_
      refine K_store ty47 0 rfl rfl rfl rfl rfl rfl ?_
      refine K_nil ?_
      refine Q_then ?_
      refine K_seq ?_
      refine K_seq ?_
      refine K_region ?_
      refine KV (R_fieldAddr 2 fd50_2 rfl) rfl ?_
      refine KV (R_loadO ty48 0 rfl rfl rfl rfl (fun _ => rfl) rfl) rfl ?_
      refine KV (R_len sl48 rfl) rfl ?_
      refine KV (R_move rfl) rfl ?_
      refine K_nil ?_
      refine Q_then ?_
      refine K_block ?_
      refine K_loopD (G := Nat) [10, 11, 34, 35, 36, 37, 38, 39, 40, 41, 42, 43, 44, 45, 46, 47, 48, 49] (fun g => [(34, .int .i64 (g : Int))]) (fun hl g => ((hl.set 1 (row (.slice ua ps.length uc) T85 3 ps.length (cellsP (qsAt l ps g)))).set 0 (blk b9 (.cells #[.slice cka rk.length ckc, .int .i64 a.states, .slice ua ps.length uc, .slice fa a.final.length fc] T50 (0, 0))))) (fun g => V6) (fun g => (g ≤ ps.length)) (fun g => ps.length - g) 0 (Nat.zero_le _) ⟨rfl, trivial⟩ (by simp only [args0, Nat.reduceAdd, del, memN, beqN, Nat.reduceBEq, cond_true, cond_false]; rfl) (by rw [qsAt_zero]; rfl) rfl ?_
      rintro k hk0
      try dsimp only at hk0
      dsimp only [List.set, List.cons_append, List.nil_append]
      refine K_seq ?_
      refine K_region ?_
      refine KV (R_cmp rfl rfl rfl) rfl ?_
      refine K_nil ?_
      refine Q_then ?_
      refine K_seq ?_
      refine K_if rfl (fun h35 => ?_) (fun h35 => ?_)
      ·
        have hk' : k < ps.length := by omega
        have hpk := hrv _ (List.getElem_mem hk')
        obtain ⟨pa, pc, hpe⟩ := hpk.1.shape
        have hcl : cellRV ps[k] = [.int .i64 ps[k].1.sym, .slice pa ps[k].1.args.length pc, .int .i64 ps[k].1.to] := by unfold cellRV; rw [hpe]
        have hmem : ps[k].1 ∈ a.rules := by rw [← hps]; exact List.mem_map.2 ⟨_, List.getElem_mem hk', rfl⟩
        obtain ⟨r1, r2, r3, _, _⟩ := hok.ru _ hmem
        have hlt : ps[k].1.sym.toNat < l.length := by omega
        obtain ⟨lb, lo, hle0, hlx0⟩ := (hl.mono (hv1.trans (hv2.trans (hv3.trans (hv4.trans (hv5.trans hv6)))))).get hlt
        cases hle0
        have hgd : l.getD ps[k].1.sym.toNat 0 = l[ps[k].1.sym.toNat] := by simp [List.getD, hlt]
        rw [← hgd] at hlx0
        refine K_skip ?_
        refine Q_then ?_
        refine K_seq ?_
        refine K_block ?_
        refine K_seq ?_
        refine KC_front 1 rfl ?_
        refine KC_openRow (fun _ h _ => absurd h (by omega)) (fun gb cap tail h1 h2 h3 h4 h5 => ?_)
        try dsimp only [List.eraseIdx]
        cases h1
        refine K_region ?_
        refine KV (R_move rfl) rfl ?_
        refine KV (R_index sl48 ty85 rfl rfl ⟨by omega, by omega⟩) rfl ?_
        refine KV (R_loadO ty85 0 rfl rfl ((flat_get cellRV_len (qsAt l ps k) tail (i := k) (by rw [qsAt_len]; omega) (by omega)).trans ((congrArg cellRV (qsAt_get hk')).trans hcl)) rfl (fun e => by cases e) rfl) rfl ?_
        refine KA (A_alloc z85) rfl fun b11 => ?_
        refine KV (R_assign rfl) rfl ?_
        refine K_storeW ty85 0 rfl rfl rfl rfl rfl rfl rfl ?_
        refine K_nil ?_
        refine Q_then ?_
        refine K_regionD (fin := true) (R := [0, 1, 2, 3, 4, 5, 6, 7, 8, 9, 10]) (by kernel_rfl) mixed (.cons_cons _ (.cons_cons _ (.cons_cons _ (.cons_cons _ (.cons_cons _ (List.nil_sublist _)))))) ?_
        refine D_val rfl rfl rfl (R_fieldAddr 2 fd50_2 rfl) ?_
        refine D_val rfl rfl rfl (R_loadO ty48 2 rfl rfl rfl rfl (fun _ => rfl) rfl) ?_
        refine D_val rfl rfl rfl (R_move rfl) ?_
        refine D_val rfl rfl rfl (R_move rfl) ?_
        refine D_val rfl rfl rfl (R_fieldAddr 0 fd85_0 rfl) ?_
        refine D_val rfl rfl rfl (R_loadO ty3 0 rfl rfl rfl rfl (fun _ => rfl) rfl) ?_
        refine D_val rfl rfl rfl (R_index sl25 ty3 rfl rfl ⟨by omega, by omega⟩) ?_
        refine D_val rfl rfl rfl (R_loadH ty3 rfl (hlx0) rfl (fun _ => rfl) rfl) ?_
        refine D_val rfl rfl rfl (R_index sl48 ty85 rfl rfl ⟨by omega, by omega⟩) ?_
        refine D_val rfl rfl rfl (R_fieldAddr 0 fd85_0 rfl) ?_
        refine D_lastStoreE ty3 1 rfl rfl rfl rfl rfl rfl (show 0 + k * 3 + 0 + 1 ≤ _ from by rw [List.size_toArray, List.length_append, cellsP_len, qsAt_len]; omega) rfl ((put_img tail hk' (by omega))) ?_
        refine KQ_front 1 rfl ?_
        refine KQ_shutRow (sz := 3) (k := ps.length) (xs := cellsP (qsAt l ps (k + 1))) h2 h3 (by rw [cellsP_len, qsAt_len]) (by rw [List.size_toArray, List.length_append, cellsP_len, qsAt_len]; rw [List.length_append, cellsP_len, qsAt_len] at h5; exact h5) (flat_take cellRV_len (qsAt l ps (k + 1)) tail (m := ps.length) (by rw [qsAt_len]; omega) |>.trans (by rw [show (qsAt l ps (k + 1)).take ps.length = qsAt l ps (k + 1) from List.take_of_length_le (by rw [qsAt_len]; omega)]; rfl)) ?_
        try dsimp only [List.eraseIdx, List.set]
        refine Q_block ?_
        refine Q_then ?_
        refine K_region ?_
        refine KV (R_add rfl rfl (by omega)) rfl ?_
        refine KV (R_move rfl) rfl ?_
        refine K_nil ?_
        refine KQ_sel [2, 0, 1, 1] rfl ?_
        refine Q_nextD (k + 1) hk' (by (try dsimp only); omega) ⟨rfl, trivial⟩ rfl rfl rfl
      ·
        have hk' : k = ps.length := by omega
        rw [hk', qsAt_full]
        refine K_exit ?_
        refine Q_then_exit ?_
        refine Q_then_exit ?_
        refine Q_block_exit ?_
        refine Q_then ?_
        refine K_seq ?_
        refine KC_front 1 rfl ?_
        refine KC_pubrow rfl fun V7 hv7 hrow => ?_
        try dsimp only [List.eraseIdx]
        have hI : RepAu V7 (imgA a l rk) (.slice cka rk.length ckc) (.slice ua ps.length uc) (.slice fa a.final.length fc) := by
          have hqs : (ps.map (imgP l)).map (·.1) = a.rules.map (imgR l) := by rw [← hps, List.map_map, List.map_map]; rfl
          refine ⟨hck.mono hv7, ⟨cellsP (ps.map (imgP l)), ?_, ?_⟩, ⟨hfin.sl.mono (hv5.trans (hv6.trans hv7)), ha.f.2⟩, ha.s, by show rk.length ≤ _; omega, by rw [show (imgA a l rk).rules.length = a.rules.length from List.length_map _]; omega, hfl⟩
          · rw [show (imgA a l rk).rules.length = ps.length from (List.length_map _).trans hpl.symm]; exact hrow.sl
          · rw [show (imgA a l rk).rules = (ps.map (imgP l)).map (·.1) from hqs.symm]
            refine repL_rv fun p hp => ?_
            obtain ⟨q, hq, rfl⟩ := List.mem_map.1 hp
            have h9 := (hrv q hq).mono (hv6.trans hv7)
            refine ⟨h9.1, h9.2.1, ?_, h9.2.2.2⟩
            have hmem : q.1 ∈ a.rules := by rw [← hps]; exact List.mem_map.2 ⟨q, hq, rfl⟩
            obtain ⟨r1, r2, r3, _, _⟩ := hok.ru _ hmem
            have hlt : q.1.sym.toNat < l.length := by omega
            show i64ok (l.getD q.1.sym.toNat 0)
            rw [show l.getD q.1.sym.toNat 0 = l[q.1.sym.toNat] by simp [List.getD, hlt]]
            exact hl.2 _ (List.getElem_mem hlt)
        refine K_region ?_
        refine KV (R_loadW ty50 0 rfl rfl rfl rfl) rfl ?_
        refine K_call c2045 rfl rfl (sortedS_spec (imgA a l rk) _ _ _ V7 hI) ?_
        rintro _ V8 hv8 ⟨s1, s2, s3, rfl, hS⟩
        obtain ⟨sr, src, rfl⟩ := hS.r.shape
        obtain ⟨sf, sfc, rfl⟩ := hS.f.shape
        obtain ⟨su, suc, rfl⟩ := hS.ushape
        refine K_storeW ty50 1 rfl rfl rfl rfl rfl rfl rfl ?_
        refine KV (R_assign rfl) rfl ?_
        refine K_nil ?_
        refine Q_then ?_
        refine K_ret ?_
        refine results_gen (rs := [.cell 6 71, .tmp 7]) (vs := [_, _]) rfl ⟨⟨_, _, _, _, _, _, 1, rfl, rfl, ty50, (fun e => by cases e), rfl, rfl⟩, ⟨rfl, trivial⟩⟩ ?_
        have hE : relErr a l rk = 0 := by unfold relErr; rw [if_neg (not_not_intro hte0), if_pos hmt]
        rw [hE, errAu_ok rfl]
        exact ⟨_, _, _, rfl, hS⟩
end Go.Proofs.X

namespace Go.Proofs.X
open Go Pal Go.Proofs
attribute [local irreducible] Pal.KO Pal.KC Pal.KQ Pal.KD

end Go.Proofs.X

namespace Go.Proofs.X
open Go Pal Go.Proofs
attribute [local irreducible] Pal.KO Pal.KC Pal.KQ Pal.KD
end Go.Proofs.X

namespace Go.Proofs.X
open Go Pal Go.Proofs
attribute [local irreducible] Pal.KO Pal.KC Pal.KQ Pal.KD

end Go.Proofs.X

namespace Go.Proofs.X
open Go Pal Go.Proofs
attribute [local irreducible] Pal.KO Pal.KC Pal.KQ Pal.KD

end Go.Proofs.X

namespace Go.Proofs.X
open Go Pal Go.Proofs
attribute [local irreducible] Pal.KO Pal.KC Pal.KQ Pal.KD
end Go.Proofs.X

namespace Go.Proofs.X
open Go Pal Go.Proofs
attribute [local irreducible] Pal.KO Pal.KC Pal.KQ Pal.KD
end Go.Proofs.X

namespace Go.Proofs.X
open Go Pal Go.Proofs
attribute [local irreducible] Pal.KO Pal.KC Pal.KQ Pal.KD
theorem c27 : callable Tryz.prog F27 = true := by kernel_rfl
theorem c2023 : callable Tryz.prog F2023 = true := by kernel_rfl
set_option maxHeartbeats 1000000 in
theorem project_spec (d : Dt) (l rk : List Int) (hde : dtErr d = 0) (hn5 : d.acc.length ≤ 5) (hr8 : d.ranks.length ≤ 8) (hkr : ranksErr rk = 0) (hk8 : rk.length ≤ 8) (hll : l.length ≤ 1048576) (w1 w2 w3 lv kv : Value) (H : View) (hb : d.ranks.length ≤ 1048576 ∧ d.acc.length ≤ 1048576 ∧ d.to.length ≤ 1048576 ∧ ∀ x ∈ d.to, x.length ≤ 1048576) (hd : RepDt H d w1 w2 w3) (hl : SI H lv l) (hk : SI H kv rk) :
    Sat Tryz.prog F2118 #[.agg #[w1, w2, w3], lv, kv, .int .i64 64] H (fun r H' => ∃ v1 v2 v3, r = .tuple #[.agg #[v1, v2, v3], .int .i64 (if mapsM l d.ranks rk = true then 0 else 3)] ∧ RepDt H' (if mapsM l d.ranks rk = true then projD d l rk else ⟨[], [], []⟩) v1 v2 v3) := by
  obtain ⟨ua1, uc1x, rfl⟩ := hd.r.shape
  obtain ⟨ua2, uc2x, rfl⟩ := hd.a.shape
  obtain ⟨ua3, uc3x, rfl⟩ := hd.t.shape
  obtain ⟨la, lc, rfl⟩ := hl.shape
  obtain ⟨ka, kc, rfl⟩ := hk.shape
  have hae := ntaM_err (DtOk.of hde) hn5 hr8
  refine enterO (n := 38) (args := [.agg #[.slice ua1 d.ranks.length uc1x, .slice ua2 d.acc.length uc2x, .slice ua3 d.to.length uc3x], .slice la l.length lc, .slice ka rk.length kc, .int .i64 64]) Tryz.func11 rfl rfl rfl fun w0 => ?_
  refine K_seq ?_
  refine K_region ?_
  refine KA (A_box rfl) rfl fun b4 => ?_
  refine KA (A_alloc z54) rfl fun b8 => ?_
  refine KV (R_assign rfl) rfl ?_
  refine K_nil ?_
  refine Q_then ?_
  refine K_seq ?_
  refine K_region ?_
  refine KV (R_loadW ty54 1 rfl rfl rfl rfl) rfl ?_
  refine K_call c27 rfl rfl (tonta_spec d hb (fun _ => ⟨hn5, hr8⟩) _ _ _ H hd) ?_
  rintro _ V1 hv1 ⟨p1, p2, p3, rfl, hp⟩
  rw [if_neg (not_not_intro hde)] at hp ⊢
  rw [hde]
  obtain ⟨yr, yrc, rfl⟩ := hp.r.shape
  obtain ⟨yf, yfc, rfl⟩ := hp.f.shape
  obtain ⟨yu, yuc, rfl⟩ := hp.ushape
  refine KV (R_move rfl) rfl ?_
  refine KV (R_extract rfl rfl) rfl ?_
  refine KV (R_extract rfl rfl) rfl ?_
  refine KA (A_alloc z50) rfl fun b10 => ?_
  refine K_storeW ty50 0 rfl rfl rfl rfl rfl rfl rfl ?_
  refine KV (R_assign rfl) rfl ?_
  refine K_nil ?_
  refine Q_then ?_
  refine K_seq ?_
  refine K_seq ?_
  refine K_region ?_
  refine KV (R_move rfl) rfl ?_
  refine KV (R_cmp rfl rfl rfl) rfl ?_
  refine K_nil ?_
  refine Q_then ?_
  refine K_if rfl (fun h19 => ?_) (fun h19 => ?_)
  ·
    exact absurd rfl h19
  ·
    refine K_skip ?_
    refine Q_then ?_
    refine K_seq ?_
    refine K_region ?_
    refine KV (R_loadW ty50 0 rfl rfl rfl rfl) rfl ?_
    refine KV (R_move rfl) rfl ?_
    refine KV (R_move rfl) rfl ?_
    refine K_call c2023 rfl rfl (relabelN_spec (ntaM d) l rk _ _ _ _ _ V1 hp (hl.mono hv1) (hk.mono hv1) hll (by omega)) ?_
    rintro _ V2 hv2 ⟨q1, q2, q3, rfl, hq⟩
    obtain ⟨xr, xrc, rfl⟩ := hq.r.shape
    obtain ⟨xf, xfc, rfl⟩ := hq.f.shape
    obtain ⟨xu, xuc, rfl⟩ := hq.ushape
    refine KV (R_move rfl) rfl ?_
    refine KV (R_extract rfl rfl) rfl ?_
    refine KV (R_extract rfl rfl) rfl ?_
    refine KA (A_alloc z50) rfl fun b12 => ?_
    refine K_storeW ty50 0 rfl rfl rfl rfl rfl rfl rfl ?_
    refine KV (R_assign rfl) rfl ?_
    refine K_nil ?_
    refine Q_then ?_
    refine K_seq ?_
    refine K_seq ?_
    by_cases hm : mapsM l d.ranks rk = true
    ·
      have hP : ProjOk d l rk := ⟨hde, hn5, hr8, hkr, hk8, hm⟩
      have hE : relErr (ntaM d) l rk = 0 := by
        unfold relErr turnErr
        rw [if_neg (not_not_intro hae), if_neg (not_not_intro hkr)]
        exact if_pos hm
      simp only [hE, errAu_ok rfl] at hq ⊢
      have hq : RepAu V2 (projA d l rk) _ _ _ := hq
      refine K_region ?_
      refine KV (R_move rfl) rfl ?_
      refine KV (R_cmp rfl rfl rfl) rfl ?_
      refine K_nil ?_
      refine Q_then ?_
      refine K_if rfl (fun h30 => ?_) (fun h30 => ?_)
      ·
        exact absurd rfl h30
      ·
        refine K_skip ?_
        refine Q_then ?_
        refine K_seq ?_
        refine K_region ?_
        refine KV (R_loadW ty50 0 rfl rfl rfl rfl) rfl ?_
        refine KV (R_move rfl) rfl ?_
        refine K_call c18 rfl rfl (fromNTA_spec (projA d l rk) 64 _ _ _ V2 hq) ?_
        rintro _ V3 hv3 ⟨d1, d2, d3, rfl, hD⟩
        obtain ⟨st, hc1, hc2⟩ := proj_cons hP
        rw [hc1] at hD ⊢
        dsimp only at hD ⊢
        rw [hc2] at hD
        obtain ⟨za1, zc1x, rfl⟩ := hD.r.shape
        obtain ⟨za2, zc2x, rfl⟩ := hD.a.shape
        obtain ⟨za3, zc3x, rfl⟩ := hD.t.shape
        refine KV (R_extract rfl rfl) rfl ?_
        refine KV (R_extract rfl rfl) rfl ?_
        refine K_storeW ty54 2 rfl rfl rfl rfl rfl rfl rfl ?_
        refine KV (R_assign rfl) rfl ?_
        refine K_nil ?_
        refine Q_then ?_
        refine K_ret ?_
        refine results_gen (rs := [.cell 8 37, .tmp 9]) (vs := [_, _]) rfl ⟨⟨_, _, _, _, _, _, 2, rfl, rfl, ty54, (fun e => by cases e), rfl, rfl⟩, ⟨rfl, trivial⟩⟩ ?_
        rw [if_pos hm, if_pos hm]
        exact ⟨_, _, _, rfl, hD⟩
    ·
      have hE : relErr (ntaM d) l rk = 3 := by
        unfold relErr turnErr
        rw [if_neg (not_not_intro hae), if_neg (not_not_intro hkr)]
        exact if_neg hm
      simp only [hE, errAu_no (show (3 : Int) ≠ 0 by decide)] at hq ⊢
      refine K_region ?_
      refine KV (R_move rfl) rfl ?_
      refine KV (R_cmp rfl rfl rfl) rfl ?_
      refine K_nil ?_
      refine Q_then ?_
      refine K_if rfl (fun h30 => ?_) (fun h30 => ?_)
      ·
        refine K_seq ?_
        refine K_region ?_
        refine KV (R_build z54 pl54 rfl rfl) rfl ?_
        refine KV (R_move rfl) rfl ?_
        refine K_storeW ty54 2 rfl rfl rfl rfl rfl rfl rfl ?_
        refine KV (R_assign rfl) rfl ?_
        refine K_nil ?_
        refine Q_then ?_
        refine K_ret ?_
        refine Q_then_ret ?_
        refine results_gen (rs := [.cell 8 37, .tmp 9]) (vs := [_, _]) rfl ⟨⟨_, _, _, _, _, _, 2, rfl, rfl, ty54, (fun e => by cases e), rfl, rfl⟩, ⟨rfl, trivial⟩⟩ ?_
        rw [if_neg hm, if_neg hm]
        exact ⟨_, _, _, rfl, RepDt.nil _⟩
      ·
        exact absurd (by decide) h30
end Go.Proofs.X

namespace Go.Proofs.X
open Go Pal Go.Proofs
attribute [local irreducible] Pal.KO Pal.KC Pal.KQ Pal.KD
theorem z0 : zeroOk Tryz.prog T0 (.tuple #[]) := .of (by kernel_rfl)
theorem z1 : zeroOk Tryz.prog T1 (.nilFunc) := .of (by kernel_rfl)
theorem z2 : zeroOk Tryz.prog T2 (.int .i64 0) := .of (by kernel_rfl)
theorem c7 : callable Tryz.prog F7 = true := by kernel_rfl
theorem c19 : callable Tryz.prog F19 = true := by kernel_rfl
theorem c26 : callable Tryz.prog F26 = true := by kernel_rfl
theorem c28 : callable Tryz.prog F28 = true := by kernel_rfl
theorem c29 : callable Tryz.prog F29 = true := by kernel_rfl
theorem c33 : callable Tryz.prog F33 = true := by kernel_rfl
theorem c34 : callable Tryz.prog F34 = true := by kernel_rfl
theorem c35 : callable Tryz.prog F35 = true := by kernel_rfl
theorem c37 : callable Tryz.prog F37 = true := by kernel_rfl
theorem c40 : callable Tryz.prog F40 = true := by kernel_rfl
theorem c2118 : callable Tryz.prog F2118 = true := by kernel_rfl
set_option maxHeartbeats 1000000 in
theorem identity_law (d : Dt) (l rk : List Int) (t : Tr) (v1 v2 v3 lv kv : Value) (H : View) (cs : List Value) (hT : Tab H) (hd : RepDt H d v1 v2 v3) (hb : d.ranks.length ≤ 1048576 ∧ d.acc.length ≤ 1048576 ∧ d.to.length ≤ 1048576 ∧ ∀ x ∈ d.to, x.length ≤ 1048576) (h1 : SI H lv l) (h2 : SI H kv rk) (hb1 : l.length ≤ 1048576) (hb2 : rk.length ≤ 1048576) (hr : RepT H t cs) (hbt : t.size ≤ 1048576) :
    Sat Tryz.prog F2143 #[.agg #[v1, v2, v3], lv, kv, .agg cs.toArray] H (fun v _ => v = .bool true) := by
  obtain ⟨x0, x1, x2, x3, rfl⟩ := hr.shape
  obtain ⟨a1, k1, rfl⟩ := h1.shape
  obtain ⟨a2, k2, rfl⟩ := h2.shape
  obtain ⟨ua1, uc1x, rfl⟩ := hd.r.shape
  obtain ⟨ua2, uc2x, rfl⟩ := hd.a.shape
  obtain ⟨ua3, uc3x, rfl⟩ := hd.t.shape
  refine enterO (n := 131) (args := [.agg #[.slice ua1 d.ranks.length uc1x, .slice ua2 d.acc.length uc2x, .slice ua3 d.to.length uc3x], .slice a1 l.length k1, .slice a2 rk.length k2, .agg #[.int .i64 x0, .slice x1 x2 x3]]) Tryz.func3 rfl rfl rfl fun w0 => ?_
  refine K_seq ?_
  refine K_region ?_
  refine KA (A_box rfl) rfl fun b4 => ?_
  refine KA (A_box rfl) rfl fun b7 => ?_
  refine KV (R_assign rfl) rfl ?_
  refine K_nil ?_
  refine Q_then ?_
  refine K_seq ?_
  refine K_seq ?_
  refine K_region ?_
  refine K_call c7 rfl rfl (known_spec H hT) ?_
  rintro _ V1 hv1 rfl
  refine KV (R_not rfl) rfl ?_
  refine KV (R_move rfl) rfl ?_
  refine K_splitB ?_ ?_
  ·
    intro h22
    cases h22
  ·
    intro h22
    refine K_gyes rfl rfl ?_
    refine KV (R_loadW ty63 1 rfl rfl rfl rfl) rfl ?_
    refine K_gyes rfl rfl ?_
    refine K_call c26 rfl rfl (small_spec d _ _ _ V1 (hd.mono hv1) hb) ?_
    rintro _ V2 hv2 ⟨b19, rfl, hsml⟩
    refine K_gyes rfl rfl ?_
    refine KV (R_not rfl) rfl ?_
    refine KV (R_pickF rfl rfl) rfl ?_
    refine KV (R_move rfl) rfl ?_
    refine K_splitB ?_ ?_
    ·
      intro h27
      refine K_gno rfl rfl rfl rfl ?_
      refine K_gno rfl rfl rfl rfl ?_
      refine K_gno rfl rfl rfl rfl ?_
      refine KV (R_pickT rfl rfl) rfl ?_
      refine KV (R_move rfl) rfl ?_
      refine K_gno rfl rfl rfl rfl ?_
      refine K_gno rfl rfl rfl rfl ?_
      refine K_gno rfl rfl rfl rfl ?_
      refine KV (R_pickT rfl rfl) rfl ?_
      refine KV (R_move rfl) rfl ?_
      refine K_gno rfl rfl rfl rfl ?_
      refine K_gno rfl rfl rfl rfl ?_
      refine K_gno rfl rfl rfl rfl ?_
      refine KV (R_pickT rfl rfl) rfl ?_
      refine KV (R_move rfl) rfl ?_
      refine K_gno rfl rfl rfl rfl ?_
      refine K_gno rfl rfl rfl rfl ?_
      refine K_gno rfl rfl rfl rfl ?_
      refine KV (R_pickT rfl rfl) rfl ?_
      refine KV (R_move rfl) rfl ?_
      refine K_gno rfl rfl rfl rfl ?_
      refine K_gno rfl rfl rfl rfl ?_
      refine K_gno rfl rfl rfl rfl ?_
      refine KV (R_pickT rfl rfl) rfl ?_
      refine K_nil ?_
      refine Q_then ?_
      refine K_ifT rfl ?_
      refine K_seq ?_
      refine K_region ?_
      refine K_call c7 rfl rfl (known_spec _ (hT.mono (by first | exact hv1 | exact hv1.trans hv2 | exact hv1.trans (hv2.trans hv3) | exact hv1.trans (hv2.trans (hv3.trans hv4)) | exact hv1.trans (hv2.trans (hv3.trans (hv4.trans hv5)))))) ?_
      rintro _ V99 hv99 rfl
      refine KV (R_assign rfl) rfl ?_
      refine K_nil ?_
      refine Q_then ?_
      refine K_ret ?_
      refine Q_then_ret ?_
      refine results_gen (rs := [.tmp 8]) (vs := [_]) rfl ⟨rfl, trivial⟩ ?_
      first | rfl | (refine congrArg Value.bool ?_; exact proj_back hJ hde hm (by simpa using h124)) | (refine congrArg Value.bool ?_; simp)
    ·
      intro h27
      obtain ⟨hd8, hd5, _, _⟩ := hsml (by simpa using h27)
      refine K_gyes rfl rfl ?_
      refine KV (R_loadW ty63 1 rfl rfl rfl rfl) rfl ?_
      refine K_gyes rfl rfl ?_
      refine K_call c29 rfl rfl (rdcheck_spec d _ _ _ V2 (hd.mono (hv1.trans (hv2))) hb) ?_
      rintro _ V3 hv3 rfl
      refine K_gyes rfl rfl ?_
      refine KV (R_cmp rfl rfl rfl) rfl ?_
      refine KV (R_pickF rfl rfl) rfl ?_
      refine KV (R_move rfl) rfl ?_
      refine K_split ?_ ?_
      ·
        intro h32
        refine K_gno rfl rfl rfl rfl ?_
        refine K_gno rfl rfl rfl rfl ?_
        refine K_gno rfl rfl rfl rfl ?_
        refine KV (R_pickT rfl rfl) rfl ?_
        refine KV (R_move rfl) rfl ?_
        refine K_gno rfl rfl rfl rfl ?_
        refine K_gno rfl rfl rfl rfl ?_
        refine K_gno rfl rfl rfl rfl ?_
        refine KV (R_pickT rfl rfl) rfl ?_
        refine KV (R_move rfl) rfl ?_
        refine K_gno rfl rfl rfl rfl ?_
        refine K_gno rfl rfl rfl rfl ?_
        refine K_gno rfl rfl rfl rfl ?_
        refine KV (R_pickT rfl rfl) rfl ?_
        refine KV (R_move rfl) rfl ?_
        refine K_gno rfl rfl rfl rfl ?_
        refine K_gno rfl rfl rfl rfl ?_
        refine K_gno rfl rfl rfl rfl ?_
        refine KV (R_pickT rfl rfl) rfl ?_
        refine K_nil ?_
        refine Q_then ?_
        refine K_ifT rfl ?_
        refine K_seq ?_
        refine K_region ?_
        refine K_call c7 rfl rfl (known_spec _ (hT.mono (by first | exact hv1 | exact hv1.trans hv2 | exact hv1.trans (hv2.trans hv3) | exact hv1.trans (hv2.trans (hv3.trans hv4)) | exact hv1.trans (hv2.trans (hv3.trans (hv4.trans hv5)))))) ?_
        rintro _ V99 hv99 rfl
        refine KV (R_assign rfl) rfl ?_
        refine K_nil ?_
        refine Q_then ?_
        refine K_ret ?_
        refine Q_then_ret ?_
        refine results_gen (rs := [.tmp 8]) (vs := [_]) rfl ⟨rfl, trivial⟩ ?_
        first | rfl | (refine congrArg Value.bool ?_; exact proj_back hJ hde hm (by simpa using h124)) | (refine congrArg Value.bool ?_; simp)
      ·
        intro h32
        have hde : dtErr d = 0 := Decidable.not_not.1 h32
        have hok := DtOk.of hde
        have hts := trim_small hok hd5 hd8
        refine K_gyes rfl rfl ?_
        refine KV (R_move rfl) rfl ?_
        refine K_gyes rfl rfl ?_
        refine KV (R_len sl25 rfl) rfl ?_
        refine K_gyes rfl rfl ?_
        refine KV (R_cmp rfl rfl rfl) rfl ?_
        refine KV (R_pickF rfl rfl) rfl ?_
        refine KV (R_move rfl) rfl ?_
        refine K_split ?_ ?_
        ·
          intro h37
          refine K_gno rfl rfl rfl rfl ?_
          refine K_gno rfl rfl rfl rfl ?_
          refine K_gno rfl rfl rfl rfl ?_
          refine KV (R_pickT rfl rfl) rfl ?_
          refine KV (R_move rfl) rfl ?_
          refine K_gno rfl rfl rfl rfl ?_
          refine K_gno rfl rfl rfl rfl ?_
          refine K_gno rfl rfl rfl rfl ?_
          refine KV (R_pickT rfl rfl) rfl ?_
          refine KV (R_move rfl) rfl ?_
          refine K_gno rfl rfl rfl rfl ?_
          refine K_gno rfl rfl rfl rfl ?_
          refine K_gno rfl rfl rfl rfl ?_
          refine KV (R_pickT rfl rfl) rfl ?_
          refine K_nil ?_
          refine Q_then ?_
          refine K_ifT rfl ?_
          refine K_seq ?_
          refine K_region ?_
          refine K_call c7 rfl rfl (known_spec _ (hT.mono (by first | exact hv1 | exact hv1.trans hv2 | exact hv1.trans (hv2.trans hv3) | exact hv1.trans (hv2.trans (hv3.trans hv4)) | exact hv1.trans (hv2.trans (hv3.trans (hv4.trans hv5)))))) ?_
          rintro _ V99 hv99 rfl
          refine KV (R_assign rfl) rfl ?_
          refine K_nil ?_
          refine Q_then ?_
          refine K_ret ?_
          refine Q_then_ret ?_
          refine results_gen (rs := [.tmp 8]) (vs := [_]) rfl ⟨rfl, trivial⟩ ?_
          first | rfl | (refine congrArg Value.bool ?_; exact proj_back hJ hde hm (by simpa using h124)) | (refine congrArg Value.bool ?_; simp)
        ·
          intro h37
          refine K_gyes rfl rfl ?_
          refine KV (R_move rfl) rfl ?_
          refine K_gyes rfl rfl ?_
          refine KV (R_len sl25 rfl) rfl ?_
          refine K_gyes rfl rfl ?_
          refine KV (R_cmp rfl rfl rfl) rfl ?_
          refine KV (R_pickF rfl rfl) rfl ?_
          refine KV (R_move rfl) rfl ?_
          refine K_split ?_ ?_
          ·
            intro h42
            refine K_gno rfl rfl rfl rfl ?_
            refine K_gno rfl rfl rfl rfl ?_
            refine K_gno rfl rfl rfl rfl ?_
            refine KV (R_pickT rfl rfl) rfl ?_
            refine KV (R_move rfl) rfl ?_
            refine K_gno rfl rfl rfl rfl ?_
            refine K_gno rfl rfl rfl rfl ?_
            refine K_gno rfl rfl rfl rfl ?_
            refine KV (R_pickT rfl rfl) rfl ?_
            refine K_nil ?_
            refine Q_then ?_
            refine K_ifT rfl ?_
            refine K_seq ?_
            refine K_region ?_
            refine K_call c7 rfl rfl (known_spec _ (hT.mono (by first | exact hv1 | exact hv1.trans hv2 | exact hv1.trans (hv2.trans hv3) | exact hv1.trans (hv2.trans (hv3.trans hv4)) | exact hv1.trans (hv2.trans (hv3.trans (hv4.trans hv5)))))) ?_
            rintro _ V99 hv99 rfl
            refine KV (R_assign rfl) rfl ?_
            refine K_nil ?_
            refine Q_then ?_
            refine K_ret ?_
            refine Q_then_ret ?_
            refine results_gen (rs := [.tmp 8]) (vs := [_]) rfl ⟨rfl, trivial⟩ ?_
            first | rfl | (refine congrArg Value.bool ?_; exact proj_back hJ hde hm (by simpa using h124)) | (refine congrArg Value.bool ?_; simp)
          ·
            intro h42
            refine K_gyes rfl rfl ?_
            refine KV (R_move rfl) rfl ?_
            refine K_gyes rfl rfl ?_
            refine K_call c36 rfl rfl (rcheck31_spec rk _ V3 (h2.mono (hv1.trans (hv2.trans (hv3)))) (by omega)) ?_
            rintro _ V4 hv4 rfl
            refine K_gyes rfl rfl ?_
            refine KV (R_cmp rfl rfl rfl) rfl ?_
            refine KV (R_pickF rfl rfl) rfl ?_
            refine KV (R_move rfl) rfl ?_
            refine K_split ?_ ?_
            ·
              intro h47
              refine K_gno rfl rfl rfl rfl ?_
              refine K_gno rfl rfl rfl rfl ?_
              refine K_gno rfl rfl rfl rfl ?_
              refine KV (R_pickT rfl rfl) rfl ?_
              refine K_nil ?_
              refine Q_then ?_
              refine K_ifT rfl ?_
              refine K_seq ?_
              refine K_region ?_
              refine K_call c7 rfl rfl (known_spec _ (hT.mono (by first | exact hv1 | exact hv1.trans hv2 | exact hv1.trans (hv2.trans hv3) | exact hv1.trans (hv2.trans (hv3.trans hv4)) | exact hv1.trans (hv2.trans (hv3.trans (hv4.trans hv5)))))) ?_
              rintro _ V99 hv99 rfl
              refine KV (R_assign rfl) rfl ?_
              refine K_nil ?_
              refine Q_then ?_
              refine K_ret ?_
              refine Q_then_ret ?_
              refine results_gen (rs := [.tmp 8]) (vs := [_]) rfl ⟨rfl, trivial⟩ ?_
              first | rfl | (refine congrArg Value.bool ?_; exact proj_back hJ hde hm (by simpa using h124)) | (refine congrArg Value.bool ?_; simp)
            ·
              intro h47
              have hkr : ranksErr rk = 0 := Decidable.not_not.1 h47
              refine K_gyes rfl rfl ?_
              refine KV (R_loadW ty24 0 rfl rfl rfl rfl) rfl ?_
              refine K_gyes rfl rfl ?_
              refine K_call c34 rfl rfl (short_spec t V4 _ (by omega) (hr.mono (hv1.trans (hv2.trans (hv3.trans (hv4)))))) ?_
              rintro _ V5 hv5 rfl
              refine K_gyes rfl rfl ?_
              refine KV (R_notP rfl) rfl ?_
              refine KV (R_pickF rfl rfl) rfl ?_
              refine K_nil ?_
              refine Q_then ?_
              refine K_if rfl (fun h51 => ?_) (fun h51 => ?_)
              ·
                refine K_seq ?_
                refine K_region ?_
                refine K_call c7 rfl rfl (known_spec _ (hT.mono (by first | exact hv1 | exact hv1.trans hv2 | exact hv1.trans (hv2.trans hv3) | exact hv1.trans (hv2.trans (hv3.trans hv4)) | exact hv1.trans (hv2.trans (hv3.trans (hv4.trans hv5)))))) ?_
                rintro _ V99 hv99 rfl
                refine KV (R_assign rfl) rfl ?_
                refine K_nil ?_
                refine Q_then ?_
                refine K_ret ?_
                refine Q_then_ret ?_
                refine results_gen (rs := [.tmp 8]) (vs := [_]) rfl ⟨rfl, trivial⟩ ?_
                first | rfl | (refine congrArg Value.bool ?_; exact proj_back hJ hde hm (by simpa using h124)) | (refine congrArg Value.bool ?_; simp)
              ·
                refine K_skip ?_
                refine Q_then ?_
                refine K_seq ?_
                refine K_region ?_
                refine KV (R_loadW ty63 1 rfl rfl rfl rfl) rfl ?_
                refine K_call c28 rfl rfl (l33from_spec d _ _ _ V5 (hd.mono (hv1.trans (hv2.trans (hv3.trans (hv4.trans (hv5))))))) ?_
                rintro _ V6 hv6 rfl
                refine KA (A_alloc z54) rfl fun b9 => ?_
                refine K_storeW ty54 0 rfl rfl rfl rfl rfl rfl rfl ?_
                refine K_nil ?_
                refine Q_then ?_
                refine K_seq ?_
                refine K_region ?_
                refine KV (R_assign rfl) rfl ?_
                refine K_nil ?_
                refine Q_then ?_
                refine K_seq ?_
                refine K_seq ?_
                refine K_region ?_
                refine KV (R_assign rfl) rfl ?_
                refine K_nil ?_
                refine Q_then ?_
                refine K_block ?_
                refine K_nilrow T3 1 ?_
                refine K_loopD (G := Nat × Value) [10, 11, 55, 56, 57, 58, 59, 60, 61, 62, 63, 64, 65] (fun g => [(11, .int .i64 (g.1 : Int)), (10, g.2)]) (fun hl g => (hl.set 0 (row g.2 T3 1 g.1 (ints (idL g.1))))) (fun g => V6) (fun g => (g.1 ≤ d.ranks.length) ∧ (∃ ad cp, g.2 = .slice ad g.1 cp)) (fun g => d.ranks.length - g.1) (0, nilS) ⟨Nat.zero_le _, none, 0, rfl⟩ ⟨rfl, rfl, trivial⟩ (by simp only [args0, Nat.reduceAdd, del, memN, beqN, Nat.reduceBEq, cond_true, cond_false]; rfl) rfl rfl ?_
                rintro ⟨k, w⟩ ⟨hk, hw⟩
                dsimp only at hk hw
                dsimp only [List.set, List.cons_append, List.nil_append]
                obtain ⟨wa, wc, rfl⟩ := hw
                refine K_seq ?_
                refine K_seq ?_
                refine K_region ?_
                refine KV (R_move rfl) rfl ?_
                refine KV (R_fieldAddr 0 fd63_0 rfl) rfl ?_
                refine KV (R_loadO ty25 3 rfl rfl rfl rfl (fun _ => rfl) rfl) rfl ?_
                refine KV (R_len sl25 rfl) rfl ?_
                refine KV (R_cmp rfl rfl rfl) rfl ?_
                refine K_nil ?_
                refine Q_then ?_
                refine K_if rfl (fun h59 => ?_) (fun h59 => ?_)
                ·
                  have hlt' : k < d.ranks.length := by omega
                  refine K_skip ?_
                  refine Q_then ?_
                  refine K_seq ?_
                  refine K_block ?_
                  refine K_region ?_
                  refine KV (R_move rfl) rfl ?_
                  refine KV (R_move rfl) rfl ?_
                  refine KA (A_buildSlice (vs := [.int .i64 (k : Int)]) sl25 ty3 z3 rfl rfl (by simp [Value.cells]) (by simp) rfl (by decide)) rfl fun b64 => ?_
                  refine K_append1 0 ap25 rfl rfl rfl rfl rfl rfl ⟨by omega, by omega⟩ rfl fun a65 k65 hn65 => ?_
                  refine KV (R_assign rfl) rfl ?_
                  refine K_nil ?_
                  refine Q_block ?_
                  refine Q_then ?_
                  refine K_region ?_
                  refine KV (R_move rfl) rfl ?_
                  refine KV (R_add rfl rfl (by omega)) rfl ?_
                  refine KV (R_assign rfl) rfl ?_
                  refine K_nil ?_
                  refine Q_nextD (k + 1, .slice a65 (k + 1) k65) ⟨hlt', _, _, rfl⟩ (by (try dsimp only); omega) ⟨rfl, rfl, trivial⟩ rfl (by (try dsimp only [List.set]); rw [idL_succ, ints_snoc]; rfl) rfl
                ·
                  have hk' : k = d.ranks.length := by omega
                  subst hk'
                  refine K_exit ?_
                  refine Q_then_exit ?_
                  refine Q_then_exit ?_
                  refine Q_block_exit ?_
                  refine Q_then ?_
                  refine K_seq ?_
                  refine KC_front 0 rfl ?_
                  try dsimp only [List.eraseIdx]
                  refine KC_pubrow rfl fun V7 hv7 hrow => ?_
                  skip
                  have hid := idL_si hrow.sl (by omega)
                  refine K_region ?_
                  refine KV (R_loadW ty54 0 rfl rfl rfl rfl) rfl ?_
                  refine KV (R_move rfl) rfl ?_
                  refine KV (R_fieldAddr 0 fd63_0 rfl) rfl ?_
                  refine KV (R_loadO ty25 2 rfl rfl rfl rfl (fun _ => rfl) rfl) rfl ?_
                  refine K_call c2118 rfl rfl (project_spec d (idL d.ranks.length) d.ranks hde hd5 hd8 hok.rk hd8 (by rw [idL_len]; omega) _ _ _ _ _ V7 hb (hd.mono (hv1.trans (hv2.trans (hv3.trans (hv4.trans (hv5.trans (hv6.trans (hv7)))))))) hid (hd.mono (hv1.trans (hv2.trans (hv3.trans (hv4.trans (hv5.trans (hv6.trans (hv7)))))))).r) ?_
                  rintro _ V8 hv8 ⟨p1, p2, p3, rfl, hP⟩
                  simp only [if_pos (maps_id d.ranks)] at hP ⊢
                  rw [proj_id hok hd5 hd8] at hP
                  obtain ⟨za1, zc1x, rfl⟩ := hP.r.shape
                  obtain ⟨za2, zc2x, rfl⟩ := hP.a.shape
                  obtain ⟨za3, zc3x, rfl⟩ := hP.t.shape
                  refine KV (R_move rfl) rfl ?_
                  refine KV (R_extract rfl rfl) rfl ?_
                  refine KV (R_extract rfl rfl) rfl ?_
                  refine KA (A_alloc z54) rfl fun b12 => ?_
                  refine K_storeW ty54 0 rfl rfl rfl rfl rfl rfl rfl ?_
                  refine KV (R_assign rfl) rfl ?_
                  refine K_nil ?_
                  refine Q_then ?_
                  refine K_seq ?_
                  refine K_region ?_
                  refine KV (R_loadW ty54 1 rfl rfl rfl rfl) rfl ?_
                  refine K_call c33 rfl rfl (trim_spec d hb (by omega) _ _ _ V8 (hd.mono (hv1.trans (hv2.trans (hv3.trans (hv4.trans (hv5.trans (hv6.trans (hv7.trans (hv8)))))))))) ?_
                  rintro _ V9 hv9 ⟨t1, t2, t3, rfl, hG⟩
                  rw [if_neg (not_not_intro hde)] at hG
                  rw [hde]
                  obtain ⟨ya1, yc1x, rfl⟩ := hG.r.shape
                  obtain ⟨ya2, yc2x, rfl⟩ := hG.a.shape
                  obtain ⟨ya3, yc3x, rfl⟩ := hG.t.shape
                  refine KV (R_move rfl) rfl ?_
                  refine KV (R_extract rfl rfl) rfl ?_
                  refine KV (R_extract rfl rfl) rfl ?_
                  refine KA (A_alloc z54) rfl fun b14 => ?_
                  refine K_storeW ty54 0 rfl rfl rfl rfl rfl rfl rfl ?_
                  refine KV (R_assign rfl) rfl ?_
                  refine K_nil ?_
                  refine Q_then ?_
                  refine K_seq ?_
                  refine K_seq ?_
                  refine K_region ?_
                  refine KV (R_move rfl) rfl ?_
                  refine KV (R_cmp rfl rfl rfl) rfl ?_
                  refine KV (R_move rfl) rfl ?_
                  refine K_split ?_ ?_
                  ·
                    intro h81
                    exact absurd rfl h81
                  ·
                    intro h81
                    refine K_gyes rfl rfl ?_
                    refine KV (R_move rfl) rfl ?_
                    refine K_gyes rfl rfl ?_
                    refine KV (R_cmp rfl rfl rfl) rfl ?_
                    refine KV (R_pickF rfl rfl) rfl ?_
                    refine KV (R_move rfl) rfl ?_
                    refine K_split ?_ ?_
                    ·
                      intro h85
                      exact absurd rfl h85
                    ·
                      intro h85
                      refine K_gyes rfl rfl ?_
                      refine KV (R_loadW ty54 1 rfl rfl rfl rfl) rfl ?_
                      refine K_gyes rfl rfl ?_
                      refine KV (R_loadW ty54 0 rfl rfl rfl rfl) rfl ?_
                      refine K_gyes rfl rfl ?_
                      refine K_call c19 rfl rfl (dteq_spec (trimD d) (trimD d) _ _ _ _ _ _ V9 (hP.mono hv9) hG hts hts) ?_
                      rintro _ V10 hv10 rfl
                      refine K_gyes rfl rfl ?_
                      refine KV (R_notP rfl) rfl ?_
                      refine KV (R_pickF rfl rfl) rfl ?_
                      refine K_nil ?_
                      refine Q_then ?_
                      refine K_if rfl (fun h90 => ?_) (fun h90 => ?_)
                      ·
                        exact absurd ⟨rfl, rfl, rfl⟩ h90
                      ·
                        refine K_skip ?_
                        refine Q_then ?_
                        refine K_seq ?_
                        refine K_seq ?_
                        refine K_region ?_
                        refine KV (R_move rfl) rfl ?_
                        refine KV (R_move rfl) rfl ?_
                        refine KV (R_fieldAddr 0 fd63_0 rfl) rfl ?_
                        refine KV (R_loadO ty25 4 rfl rfl rfl rfl (fun _ => rfl) rfl) rfl ?_
                        refine K_call c37 rfl rfl (maps_spec l rk d.ranks _ _ _ V10 (h1.mono (hv1.trans (hv2.trans (hv3.trans (hv4.trans (hv5.trans (hv6.trans (hv7.trans (hv8.trans (hv9.trans (hv10))))))))))) (h2.mono (hv1.trans (hv2.trans (hv3.trans (hv4.trans (hv5.trans (hv6.trans (hv7.trans (hv8.trans (hv9.trans (hv10))))))))))) ((hd.mono (hv1.trans (hv2.trans (hv3.trans (hv4.trans (hv5.trans (hv6.trans (hv7.trans (hv8.trans (hv9.trans (hv10))))))))))).r) (by omega)) ?_
                        rintro _ V11 hv11 rfl
                        refine KV (R_not rfl) rfl ?_
                        refine K_nil ?_
                        refine Q_then ?_
                        refine K_ifB rfl (fun h96 => ?_) (fun h96 => ?_)
                        ·
                          refine K_seq ?_
                          refine K_region ?_
                          refine KV (R_assign rfl) rfl ?_
                          refine K_nil ?_
                          refine Q_then ?_
                          refine K_ret ?_
                          refine Q_then_ret ?_
                          refine results_gen (rs := [.tmp 8]) (vs := [_]) rfl ⟨rfl, trivial⟩ ?_
                          first | rfl | (refine congrArg Value.bool ?_; exact proj_back hJ hde hm (by simpa using h124)) | (refine congrArg Value.bool ?_; simp)
                        ·
                          have hm : mapsM l rk d.ranks = true := by simpa using h96
                          have hJ : ProjOk (invD d l rk) l d.ranks := ⟨(invD_ok hok hkr hm).err, hd5, by show rk.length ≤ 8; omega, hok.rk, hd8, hm⟩
                          have hIb := invD_bounds hok hb hb1 hb2 hm
                          refine K_skip ?_
                          refine Q_then ?_
                          refine K_seq ?_
                          refine K_region ?_
                          refine KV (R_loadW ty54 2 rfl rfl rfl rfl) rfl ?_
                          refine KV (R_move rfl) rfl ?_
                          refine KV (R_move rfl) rfl ?_
                          refine K_call c35 rfl rfl (inv_spec d l rk _ _ _ _ _ V11 (hd.mono (hv1.trans (hv2.trans (hv3.trans (hv4.trans (hv5.trans (hv6.trans (hv7.trans (hv8.trans (hv9.trans (hv10.trans (hv11)))))))))))) hb (h1.mono (hv1.trans (hv2.trans (hv3.trans (hv4.trans (hv5.trans (hv6.trans (hv7.trans (hv8.trans (hv9.trans (hv10.trans (hv11)))))))))))) (h2.mono (hv1.trans (hv2.trans (hv3.trans (hv4.trans (hv5.trans (hv6.trans (hv7.trans (hv8.trans (hv9.trans (hv10.trans (hv11)))))))))))) hb1 hb2) ?_
                          rintro _ V12 hv12 ⟨i1, i2, i3, rfl, hI⟩
                          rw [invM_is hde hkr hm] at hI ⊢
                          dsimp only at hI ⊢
                          obtain ⟨wa1, wc1x, rfl⟩ := hI.r.shape
                          obtain ⟨wa2, wc2x, rfl⟩ := hI.a.shape
                          obtain ⟨wa3, wc3x, rfl⟩ := hI.t.shape
                          refine KV (R_move rfl) rfl ?_
                          refine KV (R_extract rfl rfl) rfl ?_
                          refine KV (R_extract rfl rfl) rfl ?_
                          refine KA (A_alloc z54) rfl fun b16 => ?_
                          refine K_storeW ty54 0 rfl rfl rfl rfl rfl rfl rfl ?_
                          refine KV (R_assign rfl) rfl ?_
                          refine K_nil ?_
                          refine Q_then ?_
                          refine K_seq ?_
                          refine K_region ?_
                          refine KV (R_loadW ty54 0 rfl rfl rfl rfl) rfl ?_
                          refine KV (R_move rfl) rfl ?_
                          refine KV (R_fieldAddr 0 fd63_0 rfl) rfl ?_
                          refine KV (R_loadO ty25 5 rfl rfl rfl rfl (fun _ => rfl) rfl) rfl ?_
                          refine K_call c2118 rfl rfl (project_spec (invD d l rk) l d.ranks hJ.e hJ.n hJ.r hJ.k hJ.k8 hb1 _ _ _ _ _ V12 hIb hI (h1.mono (hv1.trans (hv2.trans (hv3.trans (hv4.trans (hv5.trans (hv6.trans (hv7.trans (hv8.trans (hv9.trans (hv10.trans (hv11.trans (hv12))))))))))))) (hd.mono (hv1.trans (hv2.trans (hv3.trans (hv4.trans (hv5.trans (hv6.trans (hv7.trans (hv8.trans (hv9.trans (hv10.trans (hv11.trans (hv12))))))))))))).r) ?_
                          rintro _ V13 hv13 ⟨q1, q2, q3, rfl, hQ⟩
                          simp only [if_pos hJ.m] at hQ ⊢
                          obtain ⟨qa1, qc1x, rfl⟩ := hQ.r.shape
                          obtain ⟨qa2, qc2x, rfl⟩ := hQ.a.shape
                          obtain ⟨qa3, qc3x, rfl⟩ := hQ.t.shape
                          refine KV (R_move rfl) rfl ?_
                          refine KV (R_extract rfl rfl) rfl ?_
                          refine KV (R_extract rfl rfl) rfl ?_
                          refine KA (A_alloc z54) rfl fun b18 => ?_
                          refine K_storeW ty54 0 rfl rfl rfl rfl rfl rfl rfl ?_
                          refine KV (R_assign rfl) rfl ?_
                          refine K_nil ?_
                          refine Q_then ?_
                          refine K_seq ?_
                          refine K_regionD (fin := false) (R := [0, 1, 2, 3, 4, 5, 6, 7, 8, 9, 10, 11, 12, 13, 14, 15, 16, 17, 18, 19]) (by kernel_rfl) mixed (.cons_cons _ (.cons_cons _ (.cons_cons _ (.cons_cons _ (.cons_cons _ (.cons_cons _ (.cons_cons _ (List.nil_sublist _)))))))) ?_
                          refine D_val rfl rfl rfl (R_move rfl) ?_
                          refine D_val rfl rfl rfl (R_cmp rfl rfl rfl) ?_
                          refine D_val rfl rfl rfl (R_move rfl) ?_
                          refine D_split ?_ ?_
                          ·
                            intro h114
                            refine D_val rfl rfl rfl (R_move rfl) ?_
                            refine D_val rfl rfl rfl (R_cmp rfl rfl rfl) ?_
                            refine D_val rfl rfl rfl (R_pickT rfl rfl) ?_
                            refine D_val rfl rfl rfl (R_move rfl) ?_
                            refine D_split ?_ ?_
                            ·
                              intro h118
                              refine D_val rfl rfl rfl (R_loadW ty54 0 rfl rfl rfl rfl) ?_
                              refine D_val rfl rfl rfl (R_loadW ty24 5 rfl rfl rfl rfl) ?_
                              refine D_call rfl rfl c11 rfl ⟨⟨0, rfl⟩, ⟨1, rfl⟩, ⟨2, rfl⟩, ⟨3, rfl⟩, ⟨4, rfl⟩, ⟨5, rfl⟩, ⟨6, rfl⟩, trivial⟩ (tree_spec t.size t V13 _ (Nat.le_refl _) (by omega) (hr.mono (hv1.trans (hv2.trans (hv3.trans (hv4.trans (hv5.trans (hv6.trans (hv7.trans (hv8.trans (hv9.trans (hv10.trans (hv11.trans (hv12.trans (hv13))))))))))))))) ?_
                              rintro _ V14 hv14 ⟨ds2, rfl, hd2⟩
                              obtain ⟨z0, z1, z2, z3, rfl⟩ := hd2.shape
                              refine D_call rfl rfl c40 rfl ⟨⟨0, rfl⟩, ⟨1, rfl⟩, ⟨2, rfl⟩, ⟨3, rfl⟩, ⟨4, rfl⟩, ⟨5, rfl⟩, ⟨6, rfl⟩, trivial⟩ (daccepts_spec (projD (invD d l rk) l d.ranks) _ _ _ t V14 _ (projD_bounds hJ).2 (by omega) (hQ.mono hv14) hd2) ?_
                              rintro _ V15 hv15 rfl
                              refine D_val rfl rfl rfl (R_not rfl) ?_
                              refine D_val rfl rfl rfl (R_move rfl) ?_
                              refine D_splitB ?_ ?_
                              ·
                                intro h124
                                refine D_skip rfl rfl ?_
                                refine D_skip rfl rfl ?_
                                refine D_skip rfl rfl ?_
                                refine D_skip rfl rfl ?_
                                refine D_val rfl rfl rfl (R_pickT rfl rfl) ?_
                                refine D_val rfl rfl rfl (R_pickT rfl rfl) ?_
                                refine D_val rfl rfl rfl (R_assign rfl) ?_
                                refine D_done ?_
                                refine Q_then ?_
                                refine K_ret ?_
                                refine results_gen (rs := [.tmp 8]) (vs := [_]) rfl ⟨rfl, trivial⟩ ?_
                                first | rfl | (refine congrArg Value.bool ?_; exact proj_back hJ hde hm (by simpa using h124)) | (refine congrArg Value.bool ?_; simp)
                              ·
                                intro h124
                                refine D_val rfl rfl rfl (R_loadW ty54 4 rfl rfl rfl rfl) ?_
                                refine D_val rfl rfl rfl (R_loadW ty24 5 rfl rfl rfl rfl) ?_
                                refine D_call rfl rfl c11 rfl ⟨⟨0, rfl⟩, ⟨1, rfl⟩, ⟨2, rfl⟩, ⟨3, rfl⟩, ⟨4, rfl⟩, ⟨5, rfl⟩, ⟨6, rfl⟩, trivial⟩ (tree_spec t.size t V15 _ (Nat.le_refl _) (by omega) (hr.mono (hv1.trans (hv2.trans (hv3.trans (hv4.trans (hv5.trans (hv6.trans (hv7.trans (hv8.trans (hv9.trans (hv10.trans (hv11.trans (hv12.trans (hv13.trans (hv14.trans (hv15))))))))))))))))) ?_
                                rintro _ V16 hv16 ⟨ds3, rfl, hd3⟩
                                obtain ⟨e0, e1, e2, e3, rfl⟩ := hd3.shape
                                refine D_call rfl rfl c40 rfl ⟨⟨0, rfl⟩, ⟨1, rfl⟩, ⟨2, rfl⟩, ⟨3, rfl⟩, ⟨4, rfl⟩, ⟨5, rfl⟩, ⟨6, rfl⟩, trivial⟩ (daccepts_spec d _ _ _ t V16 _ hb (by omega) (hd.mono (hv1.trans (hv2.trans (hv3.trans (hv4.trans (hv5.trans (hv6.trans (hv7.trans (hv8.trans (hv9.trans (hv10.trans (hv11.trans (hv12.trans (hv13.trans (hv14.trans (hv15.trans (hv16))))))))))))))))) hd3) ?_
                                rintro _ V17 hv17 rfl
                                refine D_val rfl rfl rfl (R_pickF rfl rfl) ?_
                                refine D_val rfl rfl rfl (R_pickT rfl rfl) ?_
                                refine D_val rfl rfl rfl (R_assign rfl) ?_
                                refine D_done ?_
                                refine Q_then ?_
                                refine K_ret ?_
                                refine results_gen (rs := [.tmp 8]) (vs := [_]) rfl ⟨rfl, trivial⟩ ?_
                                first | rfl | (refine congrArg Value.bool ?_; exact proj_back hJ hde hm (by simpa using h124)) | (refine congrArg Value.bool ?_; simp)
                            ·
                              intro h118
                              exact absurd rfl h118
                          ·
                            intro h114
                            exact absurd rfl h114
end Go.Proofs.X

/-
  From the claims' reading of arguments to what the walks know: trees, slices of ints, the table; and the claims' end. Own work. No statement of the seat is proved here.
-/
namespace Pal
open Go Go.ChangeShapes Go.WideShapes Go.RowKit
section
variable {H : Type} {enc : TypeId × Value → H} {P : Program} {w : World} {sp : Nat → Bool} {held : Bool}

theorem mapM_get {α β : Type} {f : α → Option β} : ∀ {l : List α} {r : List β}, l.mapM f = some r → l.length = r.length ∧ ∀ (i : Nat) (a : α), l[i]? = some a → f a = r[i]?
  | [], r, h => by simp at h; subst h; exact ⟨rfl, fun i a ha => by simp at ha⟩
  | x :: l, r, h => by
    simp only [List.mapM_cons, Option.bind_eq_bind, Option.bind_eq_some_iff, Option.pure_def, Option.some.injEq] at h
    obtain ⟨y, hy, ys, hys, rfl⟩ := h
    obtain ⟨h1, h2⟩ := mapM_get hys
    refine ⟨by simp [h1], fun i a ha => ?_⟩
    cases i with
    | zero => simp at ha; subst ha; simpa using hy
    | succ i => simp at ha; simpa using h2 i a ha
theorem cells_at {a : Addr} {n : Nat} {cs : List Value} (hn : 0 < n) (h : w.cells? 0 a n = some cs) : a = ⟨a.block, a.off, none⟩ ∧ cs.length = n ∧ At (heapOf w) a.block a.off cs := by
  unfold World.cells? at h
  rw [if_pos (Nat.zero_le _)] at h
  obtain ⟨h1, h2⟩ := mapM_get h
  have hlen : cs.length = n := by simpa using h1.symm
  have hget : ∀ i, i < n → w.cell? (a.add i) = cs[i]? := fun i hi => h2 i i (by simp [hi])
  obtain ⟨b, off, spot⟩ := a
  have h0 := hget 0 hn
  have hsome : ∃ v, cs[0]? = some v := ⟨cs[0], by simp⟩
  obtain ⟨v0, hv0⟩ := hsome
  have h0' : w.cell? ⟨b, off, spot⟩ = some v0 := by rw [← hv0]; simpa [Addr.add] using h0
  unfold World.cell? at h0'
  simp only at h0'
  split at h0'
  · rename_i c T fz hb
    cases spot with
    | some s => simp at h0'
    | none =>
      refine ⟨rfl, hlen, c, T, fz, hb, fun j v hj => ?_⟩
      have hjn : j < n := by rw [← hlen]; exact (List.getElem?_eq_some_iff.1 hj).1
      have := hget j hjn
      rw [addr_add, hj] at this
      simpa [World.cell?, hb] using this
  · cases h0'
theorem i64_of_wf {n : Int} (h : (Lit.int .i64 n).wf = true) : i64ok n := by
  simp [Lit.wf, IntKind.min, IntKind.max, IntKind.bits, IntKind.signed] at h
  simp only [i64ok]
  omega
theorem read_int {t : TypeId} {fuel : Nat} {cs : List Value} {x : DataW H × List MemPlace} (ht : P.underlying t = some (.int .i64)) (h : DataW.trod enc P w 0 sp held fuel t cs = some x) : ∃ n, cs = [.int .i64 n] ∧ i64ok n := by
  obtain ⟨n, h1, _, h3⟩ := DataW.trod_int ht h
  exact ⟨n, h1, i64_of_wf h3⟩
/-- A slice whose elements have sz cells. -/
theorem read_slice {t e : TypeId} {sz fuel : Nat} {cs : List Value} {x : DataW H × List MemPlace} (ht : P.underlying t = some (.slice e)) (hce : P.cellsOf e = sz) (hsz : 0 < sz) (h : DataW.trod enc P w 0 sp held fuel t cs = some x) :
    ∃ (a : Option Addr) (len cap b off : Nat) (elems rest : List (DataW H × List MemPlace)) (rc : Nat → List Value), cs = [.slice a len cap] ∧ elems.length = len ∧ (0 < len → a = some ⟨b, off, none⟩) ∧
      (x.1 = .nil ∧ len = 0 ∨ x.1 = .slice (elems.map (·.1)) (rest.map (·.1))) ∧
      ∀ i (hi : i < elems.length), (rc i).length = sz ∧ At (heapOf w) b (off + i * sz) (rc i) ∧ ∃ m, m < fuel ∧ DataW.trod enc P w 0 sp held m e (rc i) = some elems[i] := by
  subst hce
  rcases DataW.trod_slice ht h with ⟨rfl, rfl⟩ | ⟨a, len, cap, elems, rest, n, rfl, rfl, rfl, _, _, _, hlen, hel, _⟩
  · exact ⟨none, 0, 0, 0, 0, [], [], fun _ => [], rfl, rfl, fun h => absurd h (Nat.lt_irrefl _), .inl ⟨rfl, rfl⟩, fun i hi => absurd hi (Nat.not_lt_zero _)⟩
  · have hget : ∀ i (hi : i < elems.length), ∃ ci, w.cells? 0 (a.add (i * P.cellsOf e)) (P.cellsOf e) = some ci ∧ DataW.trod enc P w 0 sp held n e ci = some elems[i] := by
      intro i hi
      have := hel i (hlen ▸ hi)
      rw [List.getElem?_eq_getElem hi] at this
      exact Option.bind_eq_some_iff.1 this
    have hspot : 0 < len → a = ⟨a.block, a.off, none⟩ := by
      intro h0
      obtain ⟨ci, h1, _⟩ := hget 0 (hlen ▸ h0)
      have := (cells_at hsz h1).1
      simpa [Addr.add] using this
    refine ⟨some a, len, cap, a.block, a.off, elems, rest, fun i => (w.cells? 0 (a.add (i * P.cellsOf e)) (P.cellsOf e)).getD [], rfl, hlen, fun h0 => congrArg some (hspot h0), .inr rfl, fun i hi => ?_⟩
    obtain ⟨ci, h1, h2⟩ := hget i hi
    have ha := hspot (by omega)
    simp only [h1, Option.getD_some]
    obtain ⟨_, h4, h5⟩ := cells_at hsz h1
    rw [ha, addr_add] at h5
    exact ⟨h4, h5, n, Nat.lt_succ_self n, h2⟩
theorem At.join {Hv : View} {b off sz : Nat} : ∀ {n : Nat} {rc : Nat → List Value}, 0 < sz → 0 < n → (∀ i, i < n → (rc i).length = sz ∧ At Hv b (off + i * sz) (rc i)) → At Hv b off ((List.range n).flatMap rc) := by
  intro n rc hsz hn h
  obtain ⟨h1, cs, T, fz, hb, h2⟩ := h 0 hn
  refine ⟨cs, T, fz, hb, ?_⟩
  clear h2 h1
  induction n with
  | zero => omega
  | succ n ih =>
    intro j v hj
    rw [List.range_succ, List.flatMap_append] at hj
    have hl : ∀ m, m ≤ n + 1 → ((List.range m).flatMap rc).length = m * sz := by
      intro m hm
      induction m with
      | zero => simp
      | succ m ihm =>
        rw [List.range_succ, List.flatMap_append, List.length_append, ihm (by omega)]
        simp [(h m (by omega)).1, Nat.add_mul]
    have hln := hl n (by omega)
    by_cases hjn : j < n * sz
    · rw [List.getElem?_append_left (by omega)] at hj
      rcases Nat.eq_zero_or_pos n with e | e
      · subst e; simp at hjn
      · exact ih e (fun i hi => h i (by omega)) j v hj
    · rw [List.getElem?_append_right (by omega), hln] at hj
      obtain ⟨_, cs2, T2, fz2, hb2, h4⟩ := h n (by omega)
      rw [hb] at hb2
      cases hb2
      have := h4 (j - n * sz) v (by simpa using hj)
      rw [show off + n * sz + (j - n * sz) = off + j by omega] at this
      exact this
/-- What a measure of readings owes (the rows' own 'uptoBulk'). -/
structure Bulk (f : DataW H → Nat) (g : List (DataW H) → Nat) : Prop where
  agg : ∀ ps, f (.agg ps) = g ps + 1
  sl : ∀ es rs, f (.slice es rs) = g es + g rs + 1
  nil : g [] = 0
  cons : ∀ d r, g (d :: r) = f d + g r
structure TreeT (P : Program) (t tl ti : TypeId) : Prop where
  u : ∃ f1 f2 : Field, P.underlying t = some (.struct #[f1, f2]) ∧ (f1.type = ti ∧ f1.offset = 0) ∧ (f2.type = tl ∧ f2.offset = 1)
  ul : P.underlying tl = some (.slice t)
  ui : P.underlying ti = some (.int .i64)
  ct : P.cellsOf t = 2
  cl : P.cellsOf tl = 1
  ci : P.cellsOf ti = 1
theorem Bulk.sizes {f : DataW H → Nat} {g : List (DataW H) → Nat} (hB : Bulk f g) : ∀ {ts : List Tr} {es : List (DataW H × List MemPlace)}, ts.length = es.length → (∀ i (h : i < ts.length) (h2 : i < es.length), ts[i].size ≤ f es[i].1) → Tr.sizes ts ≤ g (es.map (·.1))
  | [], [], _, _ => by simp [Tr.sizes]
  | t :: ts, e :: es, hl, h => by
    have h0 := h 0 (by simp) (by simp)
    have ih := Bulk.sizes hB (ts := ts) (es := es) (by simpa using hl) (fun i h1 h2 => h (i + 1) (Nat.succ_lt_succ h1) (Nat.succ_lt_succ h2))
    simp only [List.getElem_cons_zero] at h0
    simp only [Tr.sizes, List.map_cons, hB.cons]
    omega
  | [], _ :: _, hl, _ => by simp at hl
  | _ :: _, [], hl, _ => by simp at hl
theorem read_tree {t tl ti : TypeId} (hT : TreeT P t tl ti) {f : DataW H → Nat} {g : List (DataW H) → Nat} (hB : Bulk f g) : ∀ (fuel : Nat) (cs : List Value) (x : DataW H × List MemPlace), DataW.trod enc P w 0 sp held fuel t cs = some x → ∃ u, RepT (heapOf w) u cs ∧ u.size ≤ f x.1 := by
  obtain ⟨f1, f2, hu, ⟨t1, o1⟩, ⟨t2, o2⟩⟩ := hT.u
  intro fuel
  induction fuel using Nat.strongRecOn with
  | _ fuel ih =>
    intro cs x h
    obtain ⟨xs, n, rfl, rfl, hcl, hxl, hxs⟩ := DataW.trod_struct hu h
    rw [hT.ct] at hcl
    obtain ⟨c0, c1, rfl⟩ : ∃ c0 c1, cs = [c0, c1] := by
      match cs, hcl with
      | [a, b], _ => exact ⟨a, b, rfl⟩
    obtain ⟨y0, y1, rfl⟩ : ∃ y0 y1, xs = [y0, y1] := by
      match xs, hxl with
      | [a, b], _ => exact ⟨a, b, rfl⟩
    have h0 := hxs 0 f1 rfl
    have h1 := hxs 1 f2 rfl
    rw [t1, o1, hT.ci] at h0
    rw [t2, o2, hT.cl] at h1
    obtain ⟨s, e0, hs⟩ := read_int hT.ui h0
    obtain ⟨a, len, cap, b, off, elems, rest, rc, e1, hlen, ha, hx, hel⟩ := read_slice hT.ul hT.ct (by decide) h1
    have e0' : c0 = .int .i64 s := by simpa using e0
    have e1' : c1 = .slice a len cap := by simpa using e1
    subst e0'
    subst e1'
    have hsub : ∀ i (hi : i < elems.length), ∃ u, RepT (heapOf w) u (rc i) ∧ u.size ≤ f elems[i].1 := by
      intro i hi
      obtain ⟨_, _, m, hm, h3⟩ := hel i hi
      exact ih m (by omega) _ _ h3
    let T : Nat → Tr := fun i => if h : i < elems.length then Classical.choose (hsub i h) else .node 0 []
    have hTs : ∀ i (hi : i < elems.length), RepT (heapOf w) (T i) (rc i) ∧ (T i).size ≤ f elems[i].1 := by
      intro i hi
      simp only [T, hi, dif_pos]
      exact Classical.choose_spec (hsub i hi)
    have htl : ((List.range len).map T).length = len := by simp
    have hsz : Tr.sizes ((List.range len).map T) ≤ g (elems.map (·.1)) := by
      refine hB.sizes (by simp [hlen]) fun i h1 h2 => ?_
      simpa using (hTs i h2).2
    refine ⟨.node s ((List.range len).map T), ?_, ?_⟩
    · have hm := RepT.mk (H := heapOf w) s ((List.range len).map T) a cap b off rc hs (fun hne => ha (by
          rcases Nat.eq_zero_or_pos len with e | e
          · subst e; exact absurd rfl hne
          · exact e)) (fun i hi => ⟨(hel i (by omega)).1, (hel i (by omega)).2.1⟩) (fun i hi => by
          have := (hTs i (by omega)).1
          simpa using this)
      rw [htl] at hm
      exact hm
    · simp only [Tr.size, List.map_cons, List.map_nil, hB.agg, hB.cons, hB.nil]
      rcases hx with ⟨_, h0⟩ | hx
      · subst h0; simp [Tr.sizes]
      · rw [hx, hB.sl]; omega
/-- The table of the row's list. -/
theorem tab_of {name : String} {g : Nat} (h : Lib.TabIs P w name .u8 (bruijn.map fun (k : Nat) => (k : Int))) (hg : P.globalNamed name = some g) : TabAt g (heapOf w) := by
  have hc : ∀ i, i < 64 → w.cell? ⟨g, i, none⟩ = some (.int .u8 ((bruijn.getD i 0 : Nat) : Int)) := by
    intro i hi
    have := h.cell hg i (by simpa [bruijn] using hi)
    rw [this]
    congr 2
    have hl : i < bruijn.length := by simpa [bruijn] using hi
    simp [List.getD, hl]
  have h0 := hc 0 (by decide)
  unfold World.cell? at h0
  split at h0
  · rename_i c T fz hb
    refine ⟨c, T, fz, hb, fun j v hj => ?_⟩
    have hjl : j < 64 := by
      have := (List.getElem?_eq_some_iff.1 hj).1
      simpa [bruijn] using this
    have h1 := hc j hjl
    have hl : j < bruijn.length := by simpa [bruijn] using hjl
    simp only [World.cell?, hb] at h1
    simp at h1
    rw [Nat.zero_add]
    simp [hl] at hj
    rw [← hj]
    simpa [List.getD, hl] using h1
  · cases h0
/-- Arguments read behind a call asx they read before, where no old block was turned. -/
theorem trodAll_stays {W W' : World} (hl : laidOutB P = true) (hsame : ∀ b, b < W.heap.size → W'.heap[b]? = W.heap[b]?) {sp' : Nat → Bool} : ∀ {ts : List TypeId} {vs : List Value} {ds : List (DataW H)} {ps : List MemPlace},
    (∀ t ∈ ts, P.readableRec t = true ∧ t < P.types.size) → DataW.TrodAll enc P W 0 (fun _ => true) true ts vs ds ps → (∀ p ∈ ps, p.block < W.heap.size) → (∀ p ∈ ps, sp' p.block = true) → DataW.TrodAll enc P W' 0 sp' true ts vs ds ps
  | [], [], [], _, _, h, _, _ => h
  | t :: ts, v :: vs, d :: ds, ps, ht, h, hlt, hsp => by
    obtain ⟨p, q, h1, h2, rfl⟩ := h
    obtain ⟨hr, hrow⟩ := ht t (by simp)
    refine ⟨p, q, WideElems.Trod_stays hl hr hrow h1 (fun x hx => ?_) (fun x hx => hsp x (List.mem_append_left _ hx)), trodAll_stays hl hsame (fun t ht' => ht t (by simp [ht'])) h2 (fun x hx => hlt x (List.mem_append_right _ hx)) (fun x hx => hsp x (List.mem_append_right _ hx)), rfl⟩
    have hb := hlt x (List.mem_append_left _ hx)
    cases x with
    | cell b off =>
      have := hsame b hb
      simp [World.sameAt, World.cell?, this]
    | map b => exact hsame b hb
  | [], _ :: _, _, _, _, h, _, _ => by simp [DataW.TrodAll] at h
  | [], [], _ :: _, _, _, h, _, _ => by simp [DataW.TrodAll] at h
  | _ :: _, [], _, _, _, h, _, _ => by simp [DataW.TrodAll] at h
  | _ :: _, _ :: _, [], _, _, h, _, _ => by simp [DataW.TrodAll] at h
/-- 'It returns true; the input reads asx it did.' -/
theorem true_post {fn : Func} {s : ChangeSpec} {apart fresh handsOn again : Bool} {W W' : World} {args : Array Value} {ds gs : List (DataW H)} {before : List MemPlace} {tb : TypeId} {Hv Hv' : View} {hl' : HL}
    (hl : laidOutB P = true) (hpar : ∀ t ∈ fn.params.toList, P.readableRec t = true ∧ t < P.types.size) (hrt : fn.resultTypes = #[tb]) (hu : P.underlying tb = some .bool) (hvs : s.vars = [])
    (hfn : s.fn H ds = { results := [.lit (.bool true)], args := ds }) (hW : DataW.Whole enc P fn.params.toList s.vars apart W args.toList ds gs before) (hok : Ok ⟨W, Hv, []⟩ W' Hv' hl') :
    s.post enc P fn apart fresh handsOn again W args (.bool true) W' := by
  have hsame : ∀ b, b < W.heap.size → W'.heap[b]? = W.heap[b]? := fun b hb => hok.old b hb (by simp)
  have hlt := hW.lt
  obtain ⟨pa, pv, hA, hV, hps, hz, hn⟩ := id hW
  rw [hvs] at hV
  obtain ⟨hgs, hpv⟩ := trodVars_none hV
  subst hgs
  subst hpv
  rw [List.append_nil] at hps
  subst hps
  have hfn' : s.fn H (ds ++ []) = { results := [.lit (.bool true)], args := ds } := by rw [List.append_nil]; exact hfn
  have hres : ∀ (b : Nat) (sp : Nat → Bool) (hd : Bool), DataW.TrodAll enc P W' b sp hd fn.resultTypes.toList ((Value.bool true).resultList fn.resultTypes.size) (s.fn H (ds ++ [])).results [] := by
    intro b sp hd
    rw [hfn', hrt]
    exact trodAll_mk1 ⟨1, by simp [DataW.trod, Value.cells, hu]⟩
  have hargs : ∀ sp : Nat → Bool, (∀ p ∈ before, sp p.block = true) → DataW.TrodAll enc P W' 0 sp true fn.params.toList args.toList (s.fn H (ds ++ [])).args before := by
    intro sp hsp
    rw [hfn']
    exact trodAll_stays hl hsame hpar hA hlt hsp
  have hvars : ∀ sp : Nat → Bool, DataW.TrodVars enc P W' sp s.vars (s.fn H (ds ++ [])).vars [] := by
    intro sp
    rw [hfn', hvs]
    rfl
  have hk : ∀ may : MemPlace → Prop, W.keptBut W' may := by
    intro may
    refine ⟨hok.os, hok.output, fun i hi => ?_⟩
    rw [hsame i hi]
    cases hw : W.heap[i]? with
    | none => rfl
    | some o => cases o <;> simp
  have hold : ∀ p ∈ before, (fun b => decide (b < W.heap.size)) p.block = true := fun p hp => by simpa using hlt p hp
  have hfz : ∀ b off, MemPlace.cell b off ∈ before → W'.frozen? ⟨b, off, none⟩ = false := by
    intro b off hp
    rw [← hz b off hp]
    simp [World.frozen?, hsame b (hlt _ hp)]
  refine ⟨ds, [], before, [], before, [], hW, hres _ _ _, hargs _ hold, hvars _, hk _, fun _ => ⟨ok_one hrt rfl (okWide_bool_mk hu true), _, _, ([] ++ before) ++ [], ⟨[] ++ before, [], trodAll_append (hargs _ (fun _ _ => rfl)) (hres _ _ _), hvars _, rfl, ?_, ?_⟩, ?_⟩⟩
  · intro b off hp
    exact hfz b off (by simpa using hp)
  · intro ha
    have := hn ha
    simpa using this
  · intro p hp _
    simpa using hp
end
end Pal

/-
  Reading arguments, by their types: slices, rules, automata. Own work. No statement of the seat is proved here.
-/
namespace Pal
open Go Go.ChangeShapes Go.WideShapes Go.RowKit
section
variable {H : Type} {enc : TypeId × Value → H} {P : Program} {w : World} {sp : Nat → Bool} {held : Bool}
/-- Every reading at type t is of some y, laid asx R says, and no greater than B says of the reading's measure. -/
def RdAt {α : Type} (enc : TypeId × Value → H) (P : Program) (w : World) (sp : Nat → Bool) (held : Bool) (f : DataW H → Nat) (t : TypeId) (R : α → List Value → Prop) (B : α → Nat → Prop) : Prop :=
  ∀ (fuel : Nat) (cs : List Value) (x : DataW H × List MemPlace), DataW.trod enc P w 0 sp held fuel t cs = some x → ∃ y, R y cs ∧ B y (f x.1)
structure Bulk1 (f : DataW H → Nat) (g : List (DataW H) → Nat) : Prop where
  b : Bulk f g
  pos : ∀ d, 1 ≤ f d
theorem Bulk1.len {f : DataW H → Nat} {g : List (DataW H) → Nat} (hB : Bulk1 f g) : ∀ ds : List (DataW H), ds.length ≤ g ds
  | [] => by simp
  | d :: r => by have := hB.len r; have := hB.pos d; rw [hB.b.cons, List.length_cons]; omega
theorem Bulk1.mem {f : DataW H → Nat} {g : List (DataW H) → Nat} (hB : Bulk1 f g) : ∀ {ds : List (DataW H)} {d : DataW H}, d ∈ ds → f d ≤ g ds
  | [], _, h => by cases h
  | e :: r, d, h => by
    rw [hB.b.cons]
    rcases List.mem_cons.1 h with rfl | h
    · omega
    · have := hB.mem h; omega
theorem rd_int {f : DataW H → Nat} {t : TypeId} (ht : P.underlying t = some (.int .i64)) : RdAt enc P w sp held f t RI (fun _ _ => True) := by
  intro fuel cs x h
  obtain ⟨n, h1, h2⟩ := read_int ht h
  exact ⟨n, ⟨h2, h1⟩, trivial⟩
theorem rd_bool {f : DataW H → Nat} {t : TypeId} (ht : P.underlying t = some .bool) : RdAt enc P w sp held f t RB (fun _ _ => True) := by
  intro fuel cs x h
  obtain ⟨b, h1, _⟩ := DataW.trod_bool ht h
  exact ⟨b, h1, trivial⟩
def RSl {α : Type} (Hv : View) (R : α → List Value → Prop) (sz : Nat) (xs : List α) (cs : List Value) : Prop := ∃ v cells, cs = [v] ∧ SlAt Hv v xs.length cells ∧ RepL R sz xs cells
def BSl {α : Type} (B : α → Nat → Prop) (xs : List α) (n : Nat) : Prop := xs.length ≤ n ∧ ∀ x ∈ xs, B x n
theorem repL_range {α : Type} {R : α → List Value → Prop} {sz : Nat} {T : Nat → α} {rc : Nat → List Value} : ∀ {n : Nat}, (∀ i, i < n → R (T i) (rc i) ∧ (rc i).length = sz) → RepL R sz ((List.range n).map T) ((List.range n).flatMap rc)
  | 0, _ => .nil
  | n + 1, h => by
    rw [range_map_succ, List.range_succ, List.flatMap_append]
    simp only [List.flatMap_cons, List.flatMap_nil, List.append_nil]
    exact (repL_range fun i hi => h i (by omega)).snoc (h n (by omega)).1 (h n (by omega)).2
theorem rd_slice {α : Type} [Inhabited α] {f : DataW H → Nat} {g : List (DataW H) → Nat} (hB : Bulk1 f g) {t e : TypeId} {sz : Nat} {R : α → List Value → Prop} {B : α → Nat → Prop} (hm : ∀ y n m, n ≤ m → B y n → B y m) (ht : P.underlying t = some (.slice e)) (hce : P.cellsOf e = sz) (hsz : 0 < sz)
    (hR : RdAt enc P w sp held f e R B) : RdAt enc P w sp held f t (RSl (heapOf w) R sz) (BSl B) := by
  intro fuel cs x h
  obtain ⟨a, len, cap, b, off, elems, rest, rc, rfl, hlen, ha, hx, hel⟩ := read_slice ht hce hsz h
  have hsub : ∀ i (hi : i < elems.length), ∃ y, R y (rc i) ∧ B y (f elems[i].1) := by
    intro i hi
    obtain ⟨_, _, m, _, h3⟩ := hel i hi
    exact hR m _ _ h3
  let T : Nat → α := fun i => if h : i < elems.length then Classical.choose (hsub i h) else default
  have hT : ∀ i (hi : i < elems.length), R (T i) (rc i) ∧ B (T i) (f elems[i].1) := by
    intro i hi
    simp only [T, hi, dif_pos]
    exact Classical.choose_spec (hsub i hi)
  refine ⟨(List.range len).map T, ⟨_, (List.range len).flatMap rc, rfl, ⟨a, cap, by simp, ?_⟩, repL_range fun i hi => ⟨(hT i (by omega)).1, (hel i (by omega)).1⟩⟩, ?_, ?_⟩
  · rcases Nat.eq_zero_or_pos len with h0 | h0
    · subst h0; exact .inl ⟨by simp, by simp⟩
    · exact .inr ⟨b, off, ha h0, At.join hsz h0 fun i hi => ⟨(hel i (by omega)).1, (hel i (by omega)).2.1⟩⟩
  · rw [List.length_map, List.length_range]
    rcases hx with ⟨_, h0⟩ | hx
    · omega
    · rw [hx, hB.b.sl]
      have := hB.len (elems.map (·.1))
      rw [List.length_map] at this
      omega
  · intro y hy
    obtain ⟨i, hi, rfl⟩ := List.mem_map.1 hy
    have hi' := List.mem_range.1 hi
    refine hm _ _ _ ?_ (hT i (by omega)).2
    rcases hx with ⟨_, h0⟩ | hx
    · omega
    · rw [hx, hB.b.sl]
      have := hB.mem (List.mem_map_of_mem (f := fun (p : DataW H × List MemPlace) => p.1) (List.getElem_mem (show i < elems.length by omega)))
      omega
/-- A struct's fields, each at its own place, one cell each. -/
def FldT (P : Program) (fd : Field) (t : TypeId) (o : Nat) : Prop := fd.type = t ∧ fd.offset = o
theorem RSl.si {Hv : View} {xs : List Int} {cs : List Value} (h : RSl Hv RI 1 xs cs) : ∃ v, cs = [v] ∧ SI Hv v xs := by
  obtain ⟨v, cells, rfl, h1, h2⟩ := h
  obtain ⟨rfl, h3⟩ := h2.eq_ints
  exact ⟨v, rfl, h1, h3⟩
theorem RepL.eq_bools {xs : List Bool} {cells : List Value} (h : RepL RB 1 xs cells) : cells = bools xs := by
  induction h with
  | nil => rfl
  | cons h _ _ ih => rw [h, ih]; rfl
theorem RSl.sb {Hv : View} {xs : List Bool} {cs : List Value} (h : RSl Hv RB 1 xs cs) : ∃ v, cs = [v] ∧ SB Hv v xs := by
  obtain ⟨v, cells, rfl, h1, h2⟩ := h
  have := h2.eq_bools
  subst this
  exact ⟨v, rfl, h1⟩
theorem RSl.ssi {Hv : View} {xss : List (List Int)} {cs : List Value} (h : RSl Hv (RSl Hv RI 1) 1 xss cs) : ∃ v, cs = [v] ∧ SSI Hv v xss := by
  obtain ⟨v, cells, rfl, h1, h2⟩ := h
  exact ⟨v, rfl, cells, h1, h2.imp fun xs cs hx => by
    obtain ⟨u, h3, h4⟩ := hx.si
    exact ⟨u, h3, h4⟩⟩
instance : Inhabited Rl := ⟨⟨0, [], 0⟩⟩
/-- ranks, final, to -/
structure DtaT (P : Program) (t ts tb tss ti tbool : TypeId) : Prop where
  u : ∃ f1 f2 f3 : Field, P.underlying t = some (.struct #[f1, f2, f3]) ∧ FldT P f1 ts 0 ∧ FldT P f2 tb 1 ∧ FldT P f3 tss 2
  us : P.underlying ts = some (.slice ti)
  ub : P.underlying tb = some (.slice tbool)
  uss : P.underlying tss = some (.slice ts)
  ui : P.underlying ti = some (.int .i64)
  ubo : P.underlying tbool = some .bool
  ct : P.cellsOf t = 3
  cs : P.cellsOf ts = 1
  cb : P.cellsOf tb = 1
  css : P.cellsOf tss = 1
  ci : P.cellsOf ti = 1
  cbo : P.cellsOf tbool = 1
theorem rd_dta {f : DataW H → Nat} {g : List (DataW H) → Nat} (hB : Bulk1 f g) {t ts tb tss ti tbool : TypeId} (hT : DtaT P t ts tb tss ti tbool) : RdAt (α := Dt) enc P w sp held f t (fun d cs => ∃ v1 v2 v3, cs = [v1, v2, v3] ∧ RepDt (heapOf w) d v1 v2 v3)
    (fun d n => d.ranks.length ≤ n ∧ d.acc.length ≤ n ∧ d.to.length ≤ n ∧ ∀ x ∈ d.to, x.length ≤ n) := by
  obtain ⟨f1, f2, f3, hu, ⟨t1, o1⟩, ⟨t2, o2⟩, ⟨t3, o3⟩⟩ := hT.u
  intro fuel cs x h
  obtain ⟨xs, n, rfl, rfl, hcl, hxl, hxs⟩ := DataW.trod_struct hu h
  rw [hT.ct] at hcl
  obtain ⟨c0, c1, c2, rfl⟩ : ∃ c0 c1 c2, cs = [c0, c1, c2] := by
    match cs, hcl with
    | [a, b, c], _ => exact ⟨a, b, c, rfl⟩
  obtain ⟨y0, y1, y2, rfl⟩ : ∃ y0 y1 y2, xs = [y0, y1, y2] := by
    match xs, hxl with
    | [a, b, c], _ => exact ⟨a, b, c, rfl⟩
  have h0 := hxs 0 f1 rfl
  have h1 := hxs 1 f2 rfl
  have h2 := hxs 2 f3 rfl
  rw [t1, o1, hT.cs] at h0
  rw [t2, o2, hT.cb] at h1
  rw [t3, o3, hT.css] at h2
  obtain ⟨rs, hr, hrb, _⟩ := rd_slice hB (fun _ _ _ _ _ => trivial) hT.us hT.ci (by decide) (rd_int hT.ui) _ _ _ h0
  obtain ⟨bs, hbs, hbb, _⟩ := rd_slice hB (fun _ _ _ _ _ => trivial) hT.ub hT.cbo (by decide) (rd_bool hT.ubo) _ _ _ h1
  obtain ⟨ts', hts, htb, htb2⟩ := rd_slice (B := BSl fun _ _ => True) hB (fun _ _ _ h1 h2 => ⟨Nat.le_trans h2.1 h1, h2.2⟩) hT.uss hT.cs (by decide) (rd_slice hB (fun _ _ _ _ _ => trivial) hT.us hT.ci (by decide) (rd_int hT.ui)) _ _ _ h2
  obtain ⟨v1, e0, hv1⟩ := hr.si
  obtain ⟨v2, e1, hv2⟩ := hbs.sb
  obtain ⟨v3, e2, hv3⟩ := hts.ssi
  have e0' : c0 = v1 := by simpa using e0
  have e1' : c1 = v2 := by simpa using e1
  have e2' : c2 = v3 := by simpa using e2
  subst e0' e1' e2'
  have hsum : f (.agg ([y0, y1, y2].map (·.1))) = f y0.1 + (f y1.1 + (f y2.1 + 0)) + 1 := by
    simp only [List.map_cons, List.map_nil, hB.b.agg, hB.b.cons, hB.b.nil]
  refine ⟨⟨rs, bs, ts'⟩, ⟨_, _, _, rfl, hv1, hv2, hv3⟩, ?_⟩
  dsimp only
  rw [hsum]
  exact ⟨by omega, by omega, by omega, fun x hx => by have := (htb2 x hx).1; omega⟩
theorem agg_of {v : Value} {cs : List Value} (h : v.cells.toList = cs) (hl : cs.length ≠ 1) : v = .agg cs.toArray := by
  subst h
  cases v with
  | agg c => rfl
  | _ => exact absurd rfl hl
theorem okw_agg {base : Nat} {t : TypeId} {c2 : Array Value} (ht : (∃ e, P.underlying t = some (.slice e)) ∨ ∃ k, P.underlying t = some (.int k)) (h : Value.okWide P w .any base t (.agg c2)) : False := by
  unfold Value.okWide at h
  rcases ht with ⟨e, ht⟩ | ⟨k, ht⟩ <;>
  · rw [ht] at h
    unfold Cell.okWide at h
    rw [ht] at h
    dsimp only at h
    unfold Cell.ok at h
    rw [ht] at h
    exact h
theorem okw_cell {base : Nat} {t : TypeId} {v u : Value} (ht : (∃ e, P.underlying t = some (.slice e)) ∨ ∃ k, P.underlying t = some (.int k)) (h : Value.okWide P w .any base t v) (hc : v.cells.toList = [u]) : v = u := by
  cases v with
  | agg c2 => exact (okw_agg ht h).elim
  | _ => exact List.head_eq_of_cons_eq hc
end
end Pal
