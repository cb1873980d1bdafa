/-
  Part of the proof: rules for walks, contracts of the functions that the statements reach, plain laws. Own work. No statement of the seat is proved here.
-/
import Derived.Test.YtbelekbnjiajaaaDoorPart3
import Derived.Test.YtbelekbnjiajaaaDoorPalMa
namespace Go.Proofs.X
open Go Pal Go.Proofs
attribute [local irreducible] Pal.KO Pal.KC Pal.KQ Pal.KD
theorem z52 : zeroOk Tryd.prog T52 (.slice none 0 0) := .of (by kernel_rfl)
theorem c93 : callable Tryd.prog F93 = true := by kernel_rfl
theorem c94 : callable Tryd.prog F94 = true := by kernel_rfl
theorem foundc_spec (d : Dt) (hok : DtOk d) (s : Nat) (xs out : List Int) (b1 b7 b4 b3 bi : Nat) (v w1 w2 w3 : Value) (oa : Option Addr) (oc : Nat) (H : View) (hd : RepDt H d w1 w2 w3) (hA1 : At H b1 0 [w1, w2, w3]) (hA7 : At H b7 0 [.int .i64 (s : Int)]) (hA4 : At H b4 0 [slc d.acc.length bi]) (hv : SI H v xs)
    (hs : s < d.ranks.length) (hl : (xs.length : Int) = d.ranks.getD s 0) (hx : ∀ x ∈ xs, 0 ≤ x ∧ x < (d.acc.length : Int)) (hf : FoundOk d out) :
    SatO Tryd.prog F94 #[v, ptr b1, ptr b7, ptr b4, ptr b3] H [blk b3 (.cells #[.slice oa out.length oc] T25 (0, 0)), row (.slice oa out.length oc) T3 1 out.length (ints out), blk bi (.cells (marks d.acc.length out) T4 (0, 0))] (fun r _ q => r = .tuple #[] ∧ ∃ oa' oc', q = [blk b3 (.cells #[.slice oa' (findD d (s : Int) out xs).length oc'] T25 (0, 0)), row (.slice oa' (findD d (s : Int) out xs).length oc') T3 1 (findD d (s : Int) out xs).length (ints (findD d (s : Int) out xs)), blk bi (.cells (marks d.acc.length (findD d (s : Int) out xs)) T4 (0, 0))]) := by
  obtain ⟨xa, xcp, rfl⟩ := hv.shape
  obtain ⟨ua1, uc1x, rfl⟩ := hd.r.shape
  obtain ⟨ua2, uc2x, rfl⟩ := hd.a.shape
  obtain ⟨ua3, uc3x, rfl⟩ := hd.t.shape
  have hn := hok.n
  have hol := hf.len
  have hat := (hok.at_ok (s := (s : Int)) (l := xs) ⟨by omega, by omega⟩ (by simpa using hl) hx).2.2
  refine enterO (n := 23) (args := [.slice xa xs.length xcp, ptr b1, ptr b7, ptr b4, ptr b3]) Tryd.func94 rfl rfl rfl fun w0 => ?_
  refine K_seq ?_
  refine K_region ?_
  refine KV (R_loadH ty54 rfl (hA1) rfl (fun e => by cases e) rfl) rfl ?_
  refine KV (R_loadH ty3 rfl (hA7) rfl (fun _ => rfl) rfl) rfl ?_
  refine KV (R_move rfl) rfl ?_
  refine K_call c91 rfl rfl (at_spec d hok (s : Int) xs _ _ _ _ H hd hv ⟨by omega, by omega⟩ (by simpa using hl) hx) ?_
  rintro _ V1 hle1 rfl
  refine KV (R_assign rfl) rfl ?_
  refine K_nil ?_
  refine Q_then ?_
  refine K_seq ?_
  refine K_region ?_
  refine KV (R_loadH ty52 rfl (hA4.mono hle1) rfl (fun _ => rfl) rfl) rfl ?_
  refine KV (R_move rfl) rfl ?_
  refine KV (R_index sl52 ty4 rfl rfl hat) rfl ?_
  refine KV (R_loadC ty4 2 rfl rfl (marks_get hat (by omega))) rfl ?_
  refine KV (R_notP rfl) rfl ?_
  refine K_nil ?_
  refine Q_then ?_
  refine K_if rfl (fun h15 => ?_) (fun h15 => ?_)
  ·
    refine K_seq ?_
    refine K_region ?_
    refine KV (R_loadH ty52 rfl (hA4.mono hle1) rfl (fun _ => rfl) rfl) rfl ?_
    refine KV (R_move rfl) rfl ?_
    refine KV (R_index sl52 ty4 rfl rfl hat) rfl ?_
    refine K_storeE ty4 2 rfl rfl rfl rfl (by rw [marks_size]; show _ + 1 ≤ _; omega) rfl (marks_put hat (by omega)) ?_
    refine K_nil ?_
    refine Q_then ?_
    refine K_region ?_
    refine KV (R_loadO ty25 0 rfl rfl rfl rfl (fun _ => rfl) rfl) rfl ?_
    refine KV (R_move rfl) rfl ?_
    refine KA (A_buildSlice (vs := [.int .i64 (atM d (s : Int) xs)]) sl25 ty3 z3 rfl rfl (by simp [Value.cells]) (by simp) rfl (by decide)) rfl fun b21 => ?_
    refine K_append1 1 ap25 rfl rfl rfl rfl rfl rfl ⟨by omega, by omega⟩ rfl fun a22 k22 hn22 => ?_
    refine K_store ty25 1 rfl rfl rfl rfl rfl rfl ?_
    refine K_nil ?_
    refine Q_fall ?_
    refine results_sel [1, 0, 0] rfl (rs := []) (vs := []) rfl trivial ?_
    have e : findD d (s : Int) out xs = out ++ [atM d (s : Int) xs] := by unfold findD; rw [if_neg h15]
    rw [e, List.length_append, ints_snoc]
    exact ⟨rfl, a22, k22, rfl⟩
  ·
    refine K_skip ?_
    refine Q_fall ?_
    refine results_sel [0, 0, 0] rfl (rs := []) (vs := []) rfl trivial ?_
    have e : findD d (s : Int) out xs = out := by unfold findD; rw [if_pos (Decidable.not_not.1 h15)]
    rw [e]
    exact ⟨rfl, oa, oc, rfl⟩

theorem found_spec (d : Dt) (hok : DtOk d) (hn64 : d.acc.length ≤ 64) (w1 w2 w3 : Value) (H : View) (hd : RepDt H d w1 w2 w3) : Sat Tryd.prog F71 #[.agg #[w1, w2, w3]] H (fun r H' => SI H' r (foundD d) ∧ FoundOk d (foundD d)) := by
  obtain ⟨ua1, uc1x, rfl⟩ := hd.r.shape
  obtain ⟨ua2, uc2x, rfl⟩ := hd.a.shape
  obtain ⟨ua3, uc3x, rfl⟩ := hd.t.shape
  have hn := hok.n
  have hrkl := (ranksErr_ok hok.rk).1
  have hrkr := (ranksErr_ok hok.rk).2
  refine enterO (n := 35) (args := [.agg #[.slice ua1 d.ranks.length uc1x, .slice ua2 d.acc.length uc2x, .slice ua3 d.to.length uc3x]]) Tryd.func71 rfl rfl rfl fun w0 => ?_
  refine K_seq ?_
  refine K_region ?_
  refine KA (A_box rfl) rfl fun b1 => ?_
  refine KV (R_assign rfl) rfl ?_
  refine K_nil ?_
  refine Q_then ?_
  refine K_seq ?_
  refine K_region ?_
  refine KA (A_alloc z25) rfl fun b3 => ?_
  refine K_nil ?_
  refine Q_then ?_
  refine K_seq ?_
  refine K_region ?_
  refine KV (R_fieldAddr 1 fd54_1 rfl) rfl ?_
  refine KV (R_loadO ty52 1 rfl rfl rfl rfl (fun _ => rfl) rfl) rfl ?_
  refine KV (R_len sl52 rfl) rfl ?_
  refine KA (A_makeSlice ap52 z4 ty4 rfl rfl (by omega) (by omega)) rfl fun b12 => ?_
  refine KA (A_alloc z52) rfl fun b4 => ?_
  refine K_store ty52 0 rfl rfl rfl rfl rfl rfl ?_
  refine K_nil ?_
  refine KQ_front 0 rfl ?_
  refine KQ_pubF fun Va hva hb4 => ?_
  refine KQ_front 2 rfl ?_
  refine KQ_pubF fun Vb hvb hb1 => ?_
  have hAb1 := At.of hb1
  have hA10 := hAb1.one (j := 0) rfl
  have hAb4 := (At.of hb4).mono hvb
  have hv0 := hva.trans hvb
  refine Q_then ?_
  refine K_seq ?_
  refine K_seq ?_
  refine K_region ?_
  refine KV (R_assign rfl) rfl ?_
  refine K_nil ?_
  refine Q_then ?_
  refine K_block ?_
  refine K_nilrow T3 1 ?_
  refine K_perm [row nilS T3 1 0 [], blk b3 (.cells #[.slice none 0 0] T25 (0, 0)), blk b12 (.cells (marks d.acc.length []) T4 (0, 0))] (by rw [← made_bools]; exact (List.Perm.swap _ _ []).cons _) ?_
  refine K_loopD (G := Nat × Int × List Int × View × Option Addr × Nat) [5, 6, 7, 8, 13, 14, 15, 16, 17, 18, 19, 20, 21, 22, 23, 24, 25, 26, 27, 28, 29, 30, 31, 32, 33] (fun g => [(5, .int .i64 g.2.1)]) (fun hl g => [row (.slice g.2.2.2.2.1 g.2.2.1.length g.2.2.2.2.2) T3 1 g.2.2.1.length (ints g.2.2.1), blk b3 (.cells #[.slice g.2.2.2.2.1 g.2.2.1.length g.2.2.2.2.2] T25 (0, 0)), blk b12 (.cells (marks d.acc.length g.2.2.1) T4 (0, 0))]) (fun g => g.2.2.2.1) (fun g => (VLe Vb g.2.2.2.1) ∧ (FoundOk d g.2.2.1) ∧ (roundsD d g.1 g.2.1 g.2.2.1 = foundD d) ∧ (64 - g.2.1 < g.1)) (fun g => g.1) (130, -1, [], Vb, none, 0) ⟨VLe.refl _, FoundOk.nil d, rfl, by dsimp only; decide⟩ ⟨rfl, trivial⟩ (by simp only [args0, Nat.reduceAdd, del, memN, beqN, Nat.reduceBEq, cond_true, cond_false]; rfl) rfl rfl ?_
  rintro ⟨F, was, out, V, oa, oc⟩ ⟨hV, hf, hF, hfu⟩
  dsimp only at hV hf hF hfu
  dsimp only [List.set, List.cons_append, List.nil_append]
  have hol := hf.len
  refine K_seq ?_
  refine K_seq ?_
  refine K_region ?_
  refine KV (R_move rfl) rfl ?_
  refine KV (R_loadO ty25 1 rfl rfl rfl rfl (fun _ => rfl) rfl) rfl ?_
  refine KV (R_len sl25 rfl) rfl ?_
  refine KV (R_cmp rfl rfl rfl) rfl ?_
  refine K_nil ?_
  refine Q_then ?_
  refine K_if rfl (fun h16 => ?_) (fun h16 => ?_)
  ·
    refine K_skip ?_
    refine Q_then ?_
    refine K_block ?_
    refine K_seq ?_
    refine K_region ?_
    refine KV (R_loadO ty25 1 rfl rfl rfl rfl (fun _ => rfl) rfl) rfl ?_
    refine KV (R_len sl25 rfl) rfl ?_
    refine KV (R_assign rfl) rfl ?_
    refine K_nil ?_
    refine Q_then ?_
    refine K_seq ?_
    refine K_region ?_
    refine KV (R_loadO ty25 1 rfl rfl rfl rfl (fun _ => rfl) rfl) rfl ?_
    refine KO_rowshape 0 rfl fun hsv => ?_
    refine K_callO (first := []) [_] [_, _] (List.Perm.refl _) c65 rfl rfl rfl (clone25o_spec [_] out _ V (row_rd hsv) (by omega)) ?_
    rintro v20 VC0 q hleC rfl
    dsimp only [List.cons_append, List.nil_append]
    refine KO_pubrowF fun VC hpc hrow20 hc20 => ?_
    have hvC := hleC.trans hpc
    obtain ⟨ca, cc, rfl, _⟩ := hc20
    have hsrc : SI VC (.slice ca out.length cc) out := ⟨hrow20.sl, hf.st.ok (by omega)⟩
    refine KV (R_assign rfl) rfl ?_
    refine K_nil ?_
    refine Q_then ?_
    refine K_seq ?_
    refine K_region ?_
    refine KV (R_fieldAddr 0 fd54_0 rfl) rfl ?_
    refine KV (R_loadH ty47 rfl (hA10.mono (hV.trans hvC)) rfl (fun _ => rfl) rfl) rfl ?_
    refine KV (R_len sl47 rfl) rfl ?_
    refine KV (R_move rfl) rfl ?_
    refine K_nil ?_
    refine Q_then ?_
    refine K_block ?_
    refine K_loopD (G := Nat × List Int × View × Option Addr × Nat) [7, 8, 24, 25, 26, 27, 28, 29, 30, 31, 32, 33] (fun g => [(24, .int .i64 (g.1 : Int))]) (fun hl g => [row (.slice g.2.2.2.1 g.2.1.length g.2.2.2.2) T3 1 g.2.1.length (ints g.2.1), blk b3 (.cells #[.slice g.2.2.2.1 g.2.1.length g.2.2.2.2] T25 (0, 0)), blk b12 (.cells (marks d.acc.length g.2.1) T4 (0, 0))]) (fun g => g.2.2.1) (fun g => (g.1 ≤ d.ranks.length) ∧ (VLe VC g.2.2.1) ∧ (FoundOk d g.2.1) ∧ (symsD d out.length d.ranks 0 out = symsD d out.length (d.ranks.drop g.1) g.1 g.2.1) ∧ (out <+: g.2.1)) (fun g => d.ranks.length - g.1) (0, out, VC, oa, oc) ⟨Nat.zero_le _, VLe.refl _, hf, rfl, List.prefix_refl _⟩ ⟨rfl, trivial⟩ (by simp only [args0, Nat.reduceAdd, del, memN, beqN, Nat.reduceBEq, cond_true, cond_false]; rfl) rfl rfl ?_
    rintro ⟨sym, out1, V1, oa1, oc1⟩ ⟨hs1, hV1, hf1, hR1, hpf⟩
    dsimp only at hs1 hV1 hf1 hR1 hpf
    dsimp only [List.set, List.cons_append, List.nil_append]
    refine K_seq ?_
    refine K_region ?_
    refine KV (R_cmp rfl rfl rfl) rfl ?_
    refine K_nil ?_
    refine Q_then ?_
    refine K_seq ?_
    refine K_if rfl (fun h25 => ?_) (fun h25 => ?_)
    ·
      have hs2 : sym < d.ranks.length := by omega
      obtain ⟨rb, ro, hre, hrk⟩ := (hd.mono (hv0.trans (hV.trans (hvC.trans hV1)))).r.get hs2
      cases hre
      have hrk2 := hrkr sym hs2
      obtain ⟨nn, hnn⟩ : ∃ nn : Nat, d.ranks[sym] = (nn : Int) := ⟨d.ranks[sym].toNat, by omega⟩
      have hnt : d.ranks[sym].toNat = nn := by omega
      rw [hnn] at hrk
      have hgd : d.ranks.getD sym 0 = d.ranks[sym] := by simp [List.getD, hs2]
      refine K_skip ?_
      refine Q_then ?_
      refine K_seq ?_
      refine K_block ?_
      refine K_seq ?_
      refine K_region ?_
      refine KV (R_move rfl) rfl ?_
      refine KV (R_indexN sl47 ty3 rfl rfl (by omega)) rfl ?_
      refine KV (R_loadH ty3 rfl (hrk) rfl (fun _ => rfl) rfl) rfl ?_
      refine KA (A_alloc z3) rfl fun b7 => ?_
      refine K_store ty3 0 rfl rfl rfl rfl rfl rfl ?_
      refine KV (R_assign rfl) rfl ?_
      refine K_nil ?_
      refine KQ_front 0 rfl ?_
      refine KQ_pubF fun Vc hvc hb7 => ?_
      refine Q_then ?_
      refine K_region ?_
      refine KV (R_move rfl) rfl ?_
      refine KV (R_move rfl) rfl ?_
      refine KV (R_makeFunc rfl rfl) rfl ?_
      have hvis : VisitL Tryd.prog F94 [ptr b1, ptr b7, ptr b4, ptr b3] Vc out (ext out.length nn []) (fun pre _ q => FoundOk d (findsD d sym out pre out1) ∧ ∃ oa oc, q = [blk b3 (.cells #[.slice oa (findsD d sym out pre out1).length oc] T25 (0, 0)), row (.slice oa (findsD d sym out pre out1).length oc) T3 1 (findsD d sym out pre out1).length (ints (findsD d sym out pre out1)), blk b12 (.cells (marks d.acc.length (findsD d sym out pre out1)) T4 (0, 0))]) := by
        refine ⟨fun _ _ _ _ _ h => h, ?_⟩
        rintro G pre is xa len cp p hlen hle ⟨hfo, oa2, oc2, rfl⟩ hpre hxs
        have hm : is ∈ ext out.length nn [] := hpre.subset (by simp)
        rw [ext_nil] at hm
        obtain ⟨hm1, hm2⟩ := tups_item hm
        have hchain := (hV.trans hvC).trans (hV1.trans (hvc.trans hle))
        have hpk := pick_ok hf.st hm2
        have hlk : ((pickD out is).length : Int) = d.ranks.getD sym 0 := by rw [pickD_len, hm1, hgd, hnn]
        have hat := (hok.at_ok (s := (sym : Int)) (l := pickD out is) ⟨by omega, by omega⟩ (by simpa using hlk) hpk).2.2
        refine (foundc_spec d hok sym (pickD out is) (findsD d sym out pre out1) b1 b7 b4 b3 b12 _ _ _ _ oa2 oc2 G (hd.mono (hv0.trans hchain)) (hAb1.mono hchain) ((At.of hb7).mono hle) (hAb4.mono hchain) hxs hs2 hlk hpk hfo).mono' ?_
        rintro v V' q ⟨rfl, oa', oc', rfl⟩
        exact ⟨rfl, by rw [findsD_snoc]; exact hfo.step hat, oa', oc', by rw [findsD_snoc]⟩
      refine K_callO (first := []) [_, _, _] [] (by rw [List.append_nil]; exact List.Perm.swap _ _ _) c93 rfl rfl rfl (lists_spec nn F94 [ptr b1, ptr b7, ptr b4, ptr b3] out _ _ Vc _ hvis c94 (by omega) (by omega) (hsrc.mono (hV1.trans hvc)) ⟨hf1, oa1, oc1, rfl⟩) ?_
      rintro _ V2 q hle2 ⟨rfl, hf2, oa2, oc2, rfl⟩
      dsimp only [List.cons_append, List.nil_append]
      have hst : findsD d sym out (ext out.length nn []) out1 = stepsD d sym (tups out.length nn) out1 := by rw [ext_nil]; exact finds_steps hpf (fun is h => (tups_item h).2)
      rw [hst] at hf2 ⊢
      refine K_nil ?_
      refine Q_block ?_
      refine Q_then ?_
      refine K_region ?_
      refine KV (R_add rfl rfl (by omega)) rfl ?_
      refine KV (R_move rfl) rfl ?_
      refine K_nil ?_
      refine KQ_sel [1, 0, 0] rfl ?_
      refine Q_nextD (sym + 1, stepsD d sym (tups out.length nn) out1, V2, oa2, oc2) ⟨hs2, hV1.trans (hvc.trans hle2), hf2, by rw [hR1, List.drop_eq_getElem_cons hs2, symsD, hnt]; rfl, hpf.trans (stepsD_len d sym _ out1)⟩ (by (try dsimp only); omega) ⟨rfl, trivial⟩ rfl rfl rfl
    ·
      have hs2' : sym = d.ranks.length := by omega
      refine K_exit ?_
      refine Q_then_exit ?_
      refine Q_then_exit ?_
      refine Q_block_exit ?_
      refine Q_block ?_
      obtain ⟨F, rfl⟩ : ∃ F2, F = F2 + 1 := ⟨F - 1, by omega⟩
      rw [roundsD, if_pos h16, hR1, hs2'] at hF
      rw [List.drop_length, symsD] at hF
      refine Q_nextD (F, out.length, out1, V1, oa1, oc1) ⟨hV.trans (hvC.trans hV1), hf1, hF, by dsimp only; omega⟩ (by (try dsimp only); omega) ⟨rfl, trivial⟩ rfl rfl rfl
  ·
    have hfin : foundD d = out := by
      rw [← hF]
      cases F with
      | zero => rfl
      | succ F => rw [roundsD, if_neg h16]
    refine K_exit ?_
    refine Q_then_exit ?_
    refine Q_then_exit ?_
    refine Q_block_exit ?_
    refine Q_then ?_
    refine K_seq ?_
    refine K_region ?_
    refine KV (R_loadO ty25 1 rfl rfl rfl rfl (fun _ => rfl) rfl) rfl ?_
    refine KV (R_assign rfl) rfl ?_
    refine K_nil ?_
    refine Q_then ?_
    refine K_ret ?_
    refine KQ_pubrow rfl fun Hp hp hrow => ?_
    refine results_gen (rs := [.tmp 2]) (vs := [_]) rfl ⟨rfl, trivial⟩ ?_
    rw [hfin]
    exact ⟨⟨hrow.sl, hf.st.ok (by omega)⟩, hf⟩
end Go.Proofs.X

namespace Go.Proofs.X
open Go Pal Go.Proofs
attribute [local irreducible] Pal.KO Pal.KC Pal.KQ Pal.KD

theorem made_spec (n : Nat) (rk : List Int) (rv : Value) (tf ff : Nat) (tcap fcap : List Value) (tom : Nat → List Int → Int) (fim : Nat → Bool) (H : View) (hr : SI H rv rk) (hrk : ranksErr rk = 0) (hn : n ≤ 64) (hct : callable Tryd.prog tf = true) (hcf : callable Tryd.prog ff = true)
    (hto : ∀ H' (s : Nat) xs v, VLe H H' → s < rk.length → xs ∈ tups n (rk.getD s 0).toNat → SI H' v xs → Sat Tryd.prog tf ([] ++ [Value.int .i64 (s : Int), v] ++ tcap).toArray H' (fun r _ => r = .int .i64 (tom s xs)))
    (hfi : ∀ H' (q : Nat), VLe H H' → q < n → Sat Tryd.prog ff ([] ++ [Value.int .i64 (q : Int)] ++ fcap).toArray H' (fun r _ => r = .bool (fim q)))
    (htom : ∀ s xs, s < rk.length → xs ∈ tups n (rk.getD s 0).toNat → i64ok (tom s xs)) :
    Sat Tryd.prog F89 #[rv, .int .i64 (n : Int), .func (.func tf) #[] tcap.toArray, .func (.func ff) #[] fcap.toArray] H (fun r H' => ∃ v1 v2 v3, r = .agg #[v1, v2, v3] ∧ RepDt H' ⟨rk, (List.range n).map fim, (List.range rk.length).map fun (z : Nat) => (tups n (rk.getD z 0).toNat).map (tom z)⟩ v1 v2 v3) := by
  obtain ⟨ra, rcp, rfl⟩ := hr.shape
  obtain ⟨⟨hrl1, hrl2⟩, hrks⟩ := ranksErr_ok hrk
  refine enterO (n := 81) (args := [.slice ra rk.length rcp, .int .i64 (n : Int), .func (.func tf) #[] tcap.toArray, .func (.func ff) #[] fcap.toArray]) Tryd.func89 rfl rfl rfl fun w0 => ?_
  refine K_seq ?_
  refine K_region ?_
  refine KA (A_alloc z54) rfl fun b8 => ?_
  refine K_nil ?_
  refine Q_then ?_
  refine K_seq ?_
  refine K_region ?_
  refine KV (R_move rfl) rfl ?_
  refine K_call c45 rfl rfl (clone47_spec rk _ H hr (by omega)) ?_
  rintro cr V0 hv0 hcr
  obtain ⟨ca, cc, rfl⟩ := hcr.shape
  refine KV (R_build z54 pl54 rfl rfl) rfl ?_
  refine KA (A_alloc z54) rfl fun b9 => ?_
  refine K_store ty54 0 rfl rfl rfl rfl rfl rfl ?_
  refine K_nil ?_
  refine Q_then ?_
  refine K_seq ?_
  refine K_seq ?_
  refine K_region ?_
  refine KV (R_move rfl) rfl ?_
  refine KV (R_move rfl) rfl ?_
  refine K_nil ?_
  refine Q_then ?_
  refine K_block ?_
  refine K_nilrow T4 1 ?_
  refine K_loopD (G := Nat × View × Value) [10, 22, 23, 24, 25, 26, 27, 28, 29, 30, 31, 32, 33] (fun g => [(22, .int .i64 (g.1 : Int))]) (fun hl g => ((hl.set 0 (row g.2.2 T4 1 g.1 (bools ((List.range g.1).map fim)))).set 1 (blk b9 (.cells #[.slice ca rk.length cc, g.2.2, .slice none 0 0] T54 (0, 0))))) (fun g => g.2.1) (fun g => (g.1 ≤ n) ∧ (VLe V0 g.2.1) ∧ (∃ ad cp, g.2.2 = .slice ad g.1 cp)) (fun g => n - g.1) (0, V0, nilS) ⟨Nat.zero_le _, VLe.refl _, none, 0, rfl⟩ ⟨rfl, trivial⟩ (by simp only [args0, Nat.reduceAdd, del, memN, beqN, Nat.reduceBEq, cond_true, cond_false]; rfl) rfl rfl ?_
  rintro ⟨i, V, w⟩ ⟨hi, hV, hw⟩
  dsimp only at hi hV hw
  dsimp only [List.set, List.cons_append, List.nil_append]
  obtain ⟨wa, wcp, rfl⟩ := hw
  refine K_seq ?_
  refine K_region ?_
  refine KV (R_cmp rfl rfl rfl) rfl ?_
  refine K_nil ?_
  refine Q_then ?_
  refine K_seq ?_
  refine K_if rfl (fun h23 => ?_) (fun h23 => ?_)
  ·
    have hi2 : i < n := by omega
    refine K_skip ?_
    refine Q_then ?_
    refine K_seq ?_
    refine K_block ?_
    refine K_seq ?_
    refine K_region ?_
    refine KV (R_move rfl) rfl ?_
    refine KV (R_assign rfl) rfl ?_
    refine K_nil ?_
    refine Q_then ?_
    refine K_regionD (fin := true) (R := [0, 1, 2, 3, 4, 5, 6, 7, 8]) (by kernel_rfl) mixed (.cons _ (.cons_cons _ (.cons_cons _ (List.nil_sublist _)))) ?_
    refine D_val rfl rfl rfl (R_fieldAddr 1 fd54_1 rfl) ?_
    refine D_val rfl rfl rfl (R_loadO ty52 0 rfl rfl rfl rfl (fun _ => rfl) rfl) ?_
    refine D_val rfl rfl rfl (R_move rfl) ?_
    refine D_val rfl rfl rfl (R_move rfl) ?_
    refine D_callV rfl rfl hcf rfl rfl ⟨⟨1, rfl⟩, ⟨2, rfl⟩, trivial⟩ (hfi V i (hv0.trans hV) hi2) ?_
    rintro _ V1 hle1 rfl
    refine D_alloc rfl rfl rfl (A_buildSlice (vs := [.bool (fim i)]) sl52 ty4 z4 rfl rfl (by simp [Value.cells]) (by simp) rfl (by decide)) fun b30 => ?_
    refine D_append1 0 ap52 rfl rfl rfl rfl rfl rfl ⟨⟨0, rfl⟩, ⟨1, rfl⟩, trivial⟩ rfl rfl ⟨by omega, by omega⟩ fun a31 k31 hn31 => ?_
    refine D_val rfl rfl rfl (R_fieldAddr 1 fd54_1 rfl) ?_
    refine D_lastStore ty52 1 rfl rfl rfl rfl rfl rfl rfl rfl ?_
    refine Q_block ?_
    refine Q_then ?_
    refine K_region ?_
    refine KV (R_add rfl rfl (by omega)) rfl ?_
    refine KV (R_move rfl) rfl ?_
    refine K_nil ?_
    refine Q_nextD (i + 1, V1, .slice a31 (i + 1) k31) ⟨hi2, hV.trans hle1, _, _, rfl⟩ (by (try dsimp only); omega) ⟨rfl, trivial⟩ rfl (by dsimp only; rw [range_map_succ, bools_snoc]; rfl) rfl
  ·
    have hi2 : i = n := by omega
    rw [hi2]
    refine K_exit ?_
    refine Q_then_exit ?_
    refine Q_then_exit ?_
    refine Q_block_exit ?_
    refine Q_then ?_
    refine K_seq ?_
    refine K_seq ?_
    refine K_region ?_
    refine KV (R_move rfl) rfl ?_
    refine KV (R_len sl47 rfl) rfl ?_
    refine KV (R_move rfl) rfl ?_
    refine K_nil ?_
    refine Q_then ?_
    refine K_block ?_
    refine K_nilrow T25 1 ?_
    refine K_loopD (G := Nat × View × Value × List Value) [11, 12, 13, 14, 15, 16, 17, 36, 37, 38, 39, 40, 41, 42, 43, 44, 45, 46, 47, 48, 49, 50, 51, 52, 53, 54, 55, 56, 57, 58, 59, 60, 61, 62, 63, 64, 65, 66, 67, 68, 69, 70, 71, 72, 73, 74, 75, 76, 77, 78, 79] (fun g => [(36, .int .i64 (g.1 : Int))]) (fun hl g => ((hl.set 0 (row g.2.2.1 T25 1 g.1 g.2.2.2)).set 2 (blk b9 (.cells #[.slice ca rk.length cc, .slice wa n wcp, g.2.2.1] T54 (0, 0))))) (fun g => g.2.1) (fun g => (g.1 ≤ rk.length) ∧ (VLe V g.2.1) ∧ (RepL (RSI g.2.1) 1 ((List.range g.1).map (fun (z : Nat) => (tups n (rk.getD z 0).toNat).map (tom z))) g.2.2.2) ∧ (∃ ad cp, g.2.2.1 = .slice ad g.1 cp)) (fun g => rk.length - g.1) (0, V, nilS, []) ⟨Nat.zero_le _, VLe.refl _, .nil, none, 0, rfl⟩ ⟨rfl, trivial⟩ (by simp only [args0, Nat.reduceAdd, del, memN, beqN, Nat.reduceBEq, cond_true, cond_false]; rfl) rfl rfl ?_
    rintro ⟨s, U, w2, cells⟩ ⟨hs, hU, hC, hw2⟩
    dsimp only at hs hU hC hw2
    dsimp only [List.set, List.cons_append, List.nil_append]
    obtain ⟨wa2, wcp2, rfl⟩ := hw2
    refine K_seq ?_
    refine K_region ?_
    refine KV (R_cmp rfl rfl rfl) rfl ?_
    refine K_nil ?_
    refine Q_then ?_
    refine K_seq ?_
    refine K_if rfl (fun h37 => ?_) (fun h37 => ?_)
    ·
      have hs2 : s < rk.length := by omega
      obtain ⟨rb, ro, hre, hrka⟩ := (hr.mono (hv0.trans (hV.trans hU))).get hs2
      cases hre
      have hrk2 := hrks s hs2
      obtain ⟨nn, hnn⟩ : ∃ nn : Nat, rk[s] = (nn : Int) := ⟨rk[s].toNat, by omega⟩
      have hnt : rk[s].toNat = nn := by omega
      rw [hnn] at hrka
      have hgd : rk.getD s 0 = rk[s] := by simp [List.getD, hs2]
      refine K_skip ?_
      refine Q_then ?_
      refine K_seq ?_
      refine K_block ?_
      refine K_seq ?_
      refine K_region ?_
      refine KV (R_move rfl) rfl ?_
      refine KV (R_indexN sl47 ty3 rfl rfl (by omega)) rfl ?_
      refine KV (R_loadH ty3 rfl (hrka) rfl (fun _ => rfl) rfl) rfl ?_
      refine KV (R_assign rfl) rfl ?_
      refine KV (R_assign rfl) rfl ?_
      refine K_nil ?_
      refine Q_then ?_
      refine K_seq ?_
      refine K_region ?_
      refine KV (R_assign rfl) rfl ?_
      refine K_nil ?_
      refine Q_then ?_
      refine K_seq ?_
      refine K_seq ?_
      refine K_region ?_
      refine KV (R_move rfl) rfl ?_
      refine KV (R_move rfl) rfl ?_
      refine K_call c85 rfl rfl (wide_spec nn n (by omega) (by omega) U) ?_
      rintro _ U1 hU1 rfl
      obtain ⟨K, hK⟩ : ∃ K, n ^ nn = K := ⟨_, rfl⟩
      rw [hK]
      have hKl : (tups n nn).length = K := by rw [tups_len, hK]
      have hK2 : K ≤ 262144 := by rw [← hK]; exact pow_le2 (by omega) (by omega)
      refine KV (R_move rfl) rfl ?_
      refine K_nil ?_
      refine Q_then ?_
      refine K_block ?_
      refine K_nilrow T3 1 ?_
      refine K_loopD (G := Nat × View × Value) [13, 14, 15, 16, 17, 44, 45, 46, 47, 48, 49, 50, 51, 52, 53, 54, 55, 56, 57, 58, 59, 60, 61, 62, 63, 64, 65, 66, 67, 68, 69, 70, 71, 72] (fun g => [(44, .int .i64 (g.1 : Int)), (13, g.2.2)]) (fun hl g => (hl.set 0 (row g.2.2 T3 1 g.1 (ints (((tups n nn).take g.1).map (tom s)))))) (fun g => g.2.1) (fun g => (g.1 ≤ K) ∧ (VLe U1 g.2.1) ∧ (∃ ad cp, g.2.2 = .slice ad g.1 cp)) (fun g => K - g.1) (0, U1, nilS) ⟨Nat.zero_le _, VLe.refl _, none, 0, rfl⟩ ⟨rfl, rfl, trivial⟩ (by simp only [args0, Nat.reduceAdd, del, memN, beqN, Nat.reduceBEq, cond_true, cond_false]; rfl) rfl rfl ?_
      rintro ⟨p, U2, w3⟩ ⟨hp, hU2, hw3⟩
      dsimp only at hp hU2 hw3
      dsimp only [List.set, List.cons_append, List.nil_append]
      obtain ⟨xa3, xcp3, rfl⟩ := hw3
      refine K_seq ?_
      refine K_region ?_
      refine KV (R_cmp rfl rfl rfl) rfl ?_
      refine K_nil ?_
      refine Q_then ?_
      refine K_seq ?_
      refine K_if rfl (fun h45 => ?_) (fun h45 => ?_)
      ·
        have hp2 : p < K := by omega
        have hp3 : p < (tups n nn).length := by omega
        have hdg : (tups n nn)[p] = digs n nn p := digs_tups2 hp3
        have hdm : digs n nn p ∈ tups n (rk.getD s 0).toNat := by rw [hgd, hnt, ← hdg]; exact List.getElem_mem hp3
        refine K_skip ?_
        refine Q_then ?_
        refine K_seq ?_
        refine K_block ?_
        refine K_seq ?_
        refine K_region ?_
        refine KV (R_move rfl) rfl ?_
        refine KV (R_assign rfl) rfl ?_
        refine K_nil ?_
        refine Q_then ?_
        refine K_seq ?_
        refine K_region ?_
        refine KV (R_move rfl) rfl ?_
        refine KA (A_makeSlice ap25 z3 ty3 rfl rfl (by omega) (by omega)) rfl fun b48 => ?_
        refine KV (R_assign rfl) rfl ?_
        refine K_nil ?_
        refine Q_then ?_
        refine K_seq ?_
        refine K_seq ?_
        refine K_region ?_
        refine KV (R_move rfl) rfl ?_
        refine KV (R_sub rfl rfl (by omega)) rfl ?_
        refine KV (R_move rfl) rfl ?_
        refine KV (R_assign rfl) rfl ?_
        refine KV (R_assign rfl) rfl ?_
        refine K_nil ?_
        refine Q_then ?_
        refine K_block ?_
        refine K_loopD (G := Nat) [16, 17, 52, 53, 54, 55, 56, 57, 58, 59, 60, 61, 62, 63, 64] (fun g => [(16, .int .i64 ((nn : Int) - 1 - (g : Int))), (17, .int .i64 ((p / n ^ g : Nat) : Int))]) (fun hl g => (hl.set 0 (blk b48 (.cells (digC n nn p g) T3 (0, 0))))) (fun g => U2) (fun g => (g ≤ nn)) (fun g => nn - g) (0 : Nat) (Nat.zero_le _) ⟨congrArg (fun z => some (Value.int .i64 z)) (by omega), congrArg (fun z => some (Value.int .i64 z)) (by simp), trivial⟩ (by simp only [args0, Nat.reduceAdd, del, memN, beqN, Nat.reduceBEq, cond_true, cond_false]; rfl) (by rw [← digC_made]; rfl) rfl ?_
        rintro r hr1
        try dsimp only at hr1
        dsimp only [List.set, List.cons_append, List.nil_append]
        refine K_seq ?_
        refine K_seq ?_
        refine K_region ?_
        refine KV (R_move rfl) rfl ?_
        refine KV (R_cmp rfl rfl rfl) rfl ?_
        refine K_nil ?_
        refine Q_then ?_
        refine K_if rfl (fun h53 => ?_) (fun h53 => ?_)
        ·
          have hr2 : r < nn := by omega
          have hn0 : n ≠ 0 := by intro e; rw [e, Nat.zero_pow (by omega)] at hK; omega
          have hpr : p / n ^ r ≤ p := Nat.div_le_self _ _
          have hquo := quo_step (n := n) (p := p) (r := r) (by omega)
          refine K_skip ?_
          refine Q_then ?_
          refine K_seq ?_
          refine K_block ?_
          refine K_region ?_
          refine KV (R_move rfl) rfl ?_
          refine KV (R_move rfl) rfl ?_
          refine KV (R_move rfl) rfl ?_
          refine KV (R_move rfl) rfl ?_
          refine KV (R_rem rfl rfl (by omega)) rfl ?_
          refine KV (R_index sl25 ty3 rfl rfl ⟨by omega, by omega⟩) rfl ?_
          refine K_storeE ty3 0 rfl rfl rfl rfl (by rw [digC_size]; show _ + 1 ≤ _; omega) rfl (digC_put hr2 (by omega)) ?_
          refine K_nil ?_
          refine Q_block ?_
          refine Q_then ?_
          refine K_regionD (fin := false) (R := [0, 1, 2, 3, 4, 5, 6]) (by kernel_rfl) mixed (.cons_cons _ (.cons_cons _ (.cons_cons _ (.cons_cons _ (.cons_cons _ (.cons_cons _ (List.nil_sublist _))))))) ?_
          refine D_val rfl rfl rfl (R_move rfl) ?_
          refine D_val rfl rfl rfl (R_sub rfl rfl (by omega)) ?_
          refine D_val rfl rfl rfl (R_move rfl) ?_
          refine D_val rfl rfl rfl (R_move rfl) ?_
          refine D_val rfl rfl rfl (R_quo rfl rfl (by omega) hquo) ?_
          refine D_val rfl rfl rfl (R_assign rfl) ?_
          refine D_val rfl rfl rfl (R_assign rfl) ?_
          refine D_done ?_
          refine Q_nextD ((r + 1)) hr2 (by (try dsimp only); omega) ⟨congrArg (fun z => some (Value.int .i64 z)) (by omega), rfl, trivial⟩ rfl rfl rfl
        ·
          have hr2 : r = nn := by omega
          rw [hr2, digC_all]
          refine K_exit ?_
          refine Q_then_exit ?_
          refine Q_then_exit ?_
          refine Q_block_exit ?_
          refine Q_then ?_
          refine KC_pubF fun U3 hU3 hb48 => ?_
          have hSI : SI U3 (slc nn b48) (digs n nn p) := ⟨by rw [digs_len]; exact ⟨_, _, rfl, .inr ⟨b48, 0, rfl, At.of hb48⟩⟩, fun x hx => by have := (tups_item hdm).2 x (by exact hx); simp only [i64ok]; omega⟩
          refine K_region ?_
          refine KV (R_move rfl) rfl ?_
          refine KV (R_move rfl) rfl ?_
          refine KV (R_move rfl) rfl ?_
          refine KV (R_move rfl) rfl ?_
          refine K_callV hct rfl rfl rfl (hto U3 s (digs n nn p) _ (hv0.trans (hV.trans (hU.trans (hU1.trans (hU2.trans hU3))))) hs2 hdm hSI) ?_
          rintro _ U4 hU4 rfl
          refine KA (A_buildSlice (vs := [.int .i64 (tom s (digs n nn p))]) sl25 ty3 z3 rfl rfl (by simp [Value.cells]) (by simp) rfl (by decide)) rfl fun b70 => ?_
          refine K_append1 0 ap25 rfl rfl rfl rfl rfl rfl ⟨by omega, by omega⟩ rfl fun a71 k71 hn71 => ?_
          refine KV (R_assign rfl) rfl ?_
          refine K_nil ?_
          refine Q_block ?_
          refine Q_then ?_
          refine K_region ?_
          refine KV (R_add rfl rfl (by omega)) rfl ?_
          refine KV (R_move rfl) rfl ?_
          refine K_nil ?_
          refine Q_nextD (p + 1, U4, .slice a71 (p + 1) k71) ⟨hp2, hU2.trans (hU3.trans hU4), _, _, rfl⟩ (by (try dsimp only); omega) ⟨rfl, rfl, trivial⟩ rfl (by dsimp only; rw [take_ints_snoc hp3, hdg]; rfl) rfl
      ·
        have hp3 : p = K := by omega
        refine K_exit ?_
        refine Q_then_exit ?_
        refine Q_then_exit ?_
        refine Q_block_exit ?_
        refine Q_then ?_
        have hrl3 : (tups n (rk.getD s 0).toNat).map (tom s) = ((tups n nn).take p).map (tom s) := by rw [hgd, hnt, hp3, ← hKl, List.take_length]
        have hrln : (((tups n nn).take p).map (tom s)).length = p := by rw [List.length_map, List.length_take]; omega
        refine KC_pubrow rfl fun Wr hWr hrow => ?_
        have hrowI : SI Wr (.slice xa3 ((tups n (rk.getD s 0).toNat).map (tom s)).length xcp3) ((tups n (rk.getD s 0).toNat).map (tom s)) := by
          rw [hrl3]
          refine ⟨by rw [hrln]; exact hrow.sl, ?_⟩
          intro x hx
          obtain ⟨y, hy, rfl⟩ := List.mem_map.1 hx
          exact htom s y hs2 (by rw [hgd, hnt]; exact List.mem_of_mem_take hy)
        rw [hrl3, hrln] at hrowI
        refine K_region ?_
        refine KV (R_fieldAddr 2 fd54_2 rfl) rfl ?_
        refine KV (R_loadO ty44 2 rfl rfl rfl rfl (fun _ => rfl) rfl) rfl ?_
        refine KV (R_move rfl) rfl ?_
        refine KA (A_buildSlice (vs := [.slice xa3 p xcp3]) sl44 ty25 z25 rfl rfl (by simp [Value.cells]) (by simp) rfl (by decide)) rfl fun b76 => ?_
        refine K_append1 0 ap44 rfl rfl rfl rfl rfl rfl ⟨by omega, by omega⟩ rfl fun a77 k77 hn77 => ?_
        refine KV (R_fieldAddr 2 fd54_2 rfl) rfl ?_
        refine K_store ty44 2 rfl rfl rfl rfl rfl rfl ?_
        refine K_nil ?_
        refine Q_block ?_
        refine Q_then ?_
        refine K_region ?_
        refine KV (R_add rfl rfl (by omega)) rfl ?_
        refine KV (R_move rfl) rfl ?_
        refine K_nil ?_
        refine Q_nextD (s + 1, Wr, .slice a77 (s + 1) k77, cells ++ [.slice xa3 p xcp3]) ⟨hs2, hU.trans (hU1.trans (hU2.trans hWr)), by rw [range_map_succ]; exact (hC.impSI (hU1.trans (hU2.trans hWr))).snoc ⟨_, rfl, by rw [hrl3]; exact hrowI⟩ rfl, _, _, rfl⟩ (by (try dsimp only); omega) ⟨rfl, trivial⟩ rfl rfl rfl
    ·
      have hs2 : s = rk.length := by omega
      subst hs2
      refine K_exit ?_
      refine Q_then_exit ?_
      refine Q_then_exit ?_
      refine Q_block_exit ?_
      refine Q_then ?_
      refine K_seq ?_
      refine K_region ?_
      refine KV (R_loadO ty54 2 rfl rfl rfl rfl (fun e => by cases e) rfl) rfl ?_
      refine K_store ty54 3 rfl rfl rfl rfl rfl rfl ?_
      refine K_nil ?_
      refine Q_then ?_
      refine K_ret ?_
      refine KQ_pubrow rfl fun HpA hpA hrowA => ?_
      refine KQ_pubrow rfl fun HpB hpB hrowB => ?_
      refine results_gen (rs := [.cell 8 54]) (vs := [_]) rfl ⟨⟨_, _, _, _, _, _, 1, rfl, rfl, ty54, (fun e => by cases e), rfl, rfl⟩, trivial⟩ ?_
      refine ⟨_, _, _, rfl, hcr.mono (hV.trans (hU.trans (hpA.trans hpB))), ?_, cells, ?_, hC.impSI (hpA.trans hpB)⟩
      · show SlAt _ _ ((List.range n).map fim).length _
        rw [List.length_map, List.length_range]
        exact hrowB.sl
      · have := hrowA.sl.mono hpB
        simpa using this
end Go.Proofs.X

namespace Go.Proofs.X
open Go Pal Go.Proofs
attribute [local irreducible] Pal.KO Pal.KC Pal.KQ Pal.KD
theorem c70 : callable Tryd.prog F70 = true := by kernel_rfl
theorem c71 : callable Tryd.prog F71 = true := by kernel_rfl
theorem c89 : callable Tryd.prog F89 = true := by kernel_rfl
theorem c90 : callable Tryd.prog F90 = true := by kernel_rfl
theorem c92 : callable Tryd.prog F92 = true := by kernel_rfl
theorem some1_spec (d : Dt) (hok : DtOk d) (out : List Int) (s : Nat) (xs : List Int) (b3 b5 b2 bas : Nat) (v ov w1 w2 w3 : Value) (H : View) (hd : RepDt H d w1 w2 w3) (hA2 : At H b2 0 [w1, w2, w3]) (hA3 : At H b3 0 [ov]) (hov : SI H ov out) (hA5 : At H b5 0 [slc d.acc.length bas]) (has : At H bas 0 (asArr d.acc.length out).toList)
    (hv : SI H v xs) (hs : s < d.ranks.length) (hx : xs ∈ tups out.length (d.ranks.getD s 0).toNat) (hst : States d out) (hol : out.length ≤ 64) :
    Sat Tryd.prog F90 #[.int .i64 (s : Int), v, ptr b3, ptr b5, ptr b2] H (fun r _ => r = .int .i64 (asD out (atM d (s : Int) (pickD out xs)))) := by
  obtain ⟨xa, xcp, rfl⟩ := hv.shape
  obtain ⟨oa, oc, rfl⟩ := hov.shape
  obtain ⟨hxl, hxm⟩ := tups_item hx
  have hrks := (ranksErr_ok hok.rk).2 s hs
  have hgd : d.ranks.getD s 0 = d.ranks[s] := by simp [List.getD, hs]
  obtain ⟨ua1, uc1x, rfl⟩ := hd.r.shape
  obtain ⟨ua2, uc2x, rfl⟩ := hd.a.shape
  obtain ⟨ua3, uc3x, rfl⟩ := hd.t.shape
  refine enterO (n := 32) (args := [.int .i64 (s : Int), .slice xa xs.length xcp, ptr b3, ptr b5, ptr b2]) Tryd.func90 rfl rfl rfl fun w0 => ?_
  refine K_seq ?_
  refine K_region ?_
  refine KV (R_assign rfl) rfl ?_
  refine K_nil ?_
  refine Q_then ?_
  refine K_seq ?_
  refine K_region ?_
  refine KV (R_assign rfl) rfl ?_
  refine K_nil ?_
  refine Q_then ?_
  refine K_seq ?_
  refine K_seq ?_
  refine K_region ?_
  refine KV (R_move rfl) rfl ?_
  refine KV (R_len sl25 rfl) rfl ?_
  refine KV (R_move rfl) rfl ?_
  refine K_nil ?_
  refine Q_then ?_
  refine K_block ?_
  refine K_nilrow T3 1 ?_
  refine K_loopD (G := Nat × Value) [8, 10, 13, 14, 15, 16, 17, 18, 19, 20, 21, 22, 23, 24] (fun g => [(13, .int .i64 (g.1 : Int)), (8, g.2)]) (fun hl g => (hl.set 0 (row g.2 T3 1 g.1 (ints (pickD out (xs.take g.1)))))) (fun g => H) (fun g => (g.1 ≤ xs.length) ∧ (∃ ad cp, g.2 = .slice ad g.1 cp)) (fun g => xs.length - g.1) (0, nilS) ⟨Nat.zero_le _, none, 0, rfl⟩ ⟨rfl, rfl, trivial⟩ (by simp only [args0, Nat.reduceAdd, del, memN, beqN, Nat.reduceBEq, cond_true, cond_false]; rfl) rfl rfl ?_
  rintro ⟨i, w⟩ ⟨hi, hw⟩
  dsimp only at hi hw
  dsimp only [List.set, List.cons_append, List.nil_append]
  obtain ⟨wa, wcp, rfl⟩ := hw
  refine K_seq ?_
  refine K_region ?_
  refine KV (R_cmp rfl rfl rfl) rfl ?_
  refine K_nil ?_
  refine Q_then ?_
  refine K_seq ?_
  refine K_if rfl (fun h14 => ?_) (fun h14 => ?_)
  ·
    have hi2 : i < xs.length := by omega
    obtain ⟨tb, to_, hte, hta⟩ := hv.get hi2
    cases hte
    have hxi := hxm _ (List.getElem_mem hi2)
    have hxo : xs[i].toNat < out.length := by omega
    obtain ⟨ob, oo, hoe, hoa⟩ := hov.get hxo
    cases hoe
    refine K_skip ?_
    refine Q_then ?_
    refine K_seq ?_
    refine K_block ?_
    refine K_seq ?_
    refine K_region ?_
    refine KV (R_indexN sl25 ty3 rfl rfl (by omega)) rfl ?_
    refine KV (R_loadH ty3 rfl (hta) rfl (fun _ => rfl) rfl) rfl ?_
    refine KV (R_assign rfl) rfl ?_
    refine K_nil ?_
    refine Q_then ?_
    refine K_region ?_
    refine KV (R_move rfl) rfl ?_
    refine KV (R_loadH ty25 rfl (hA3) rfl (fun _ => rfl) rfl) rfl ?_
    refine KV (R_move rfl) rfl ?_
    refine KV (R_index sl25 ty3 rfl rfl hxi) rfl ?_
    refine KV (R_loadH ty3 rfl (hoa) rfl (fun _ => rfl) rfl) rfl ?_
    refine KA (A_buildSlice (vs := [.int .i64 out[xs[i].toNat]]) sl25 ty3 z3 rfl rfl (by simp [Value.cells]) (by simp) rfl (by decide)) rfl fun b22 => ?_
    refine K_append1 0 ap25 rfl rfl rfl rfl rfl rfl ⟨by omega, by omega⟩ rfl fun a23 k23 hn23 => ?_
    refine KV (R_assign rfl) rfl ?_
    refine K_nil ?_
    refine Q_block ?_
    refine Q_then ?_
    refine K_region ?_
    refine KV (R_add rfl rfl (by omega)) rfl ?_
    refine KV (R_move rfl) rfl ?_
    refine K_nil ?_
    refine Q_nextD (i + 1, .slice a23 (i + 1) k23) ⟨hi2, _, _, rfl⟩ (by (try dsimp only); omega) ⟨rfl, rfl, trivial⟩ rfl (by dsimp only; rw [pickD_take hi2 hxi, ints_snoc]; rfl) rfl
  ·
    have hi2 : i = xs.length := by omega
    rw [hi2, List.take_length]
    refine K_exit ?_
    refine Q_then_exit ?_
    refine Q_then_exit ?_
    refine Q_block_exit ?_
    refine Q_then ?_
    refine K_seq ?_
    refine KC_pubrow rfl fun U hU hrow => ?_
    have hpk := pick_ok hst hxm
    have hpl := pickD_len out xs
    have hsp : SI U (.slice wa xs.length wcp) (pickD out xs) := ⟨by rw [pickD_len]; exact hrow.sl, fun x hx => by have := hpk x hx; have := hok.n; simp only [i64ok]; omega⟩
    have hlk : ((pickD out xs).length : Int) = d.ranks.getD ((s : Nat) : Int).toNat 0 := by rw [hpl, hxl, Int.toNat_natCast, hgd]; omega
    have hm := (hok.at_ok (s := (s : Int)) (l := pickD out xs) ⟨by omega, by omega⟩ hlk hpk).2.2
    have hAt : At U bas (0 + (atM d (s : Int) (pickD out xs)).toNat * 1) [.int .i64 (asD out (atM d (s : Int) (pickD out xs)))] := by
      rw [Nat.mul_one]
      exact (has.mono hU).one (by rw [Array.getElem?_toList]; exact asArr_get hm rfl)
    refine K_regionD (fin := false) (R := [0, 1, 2, 3, 4, 5, 6, 7]) (by kernel_rfl) mixed (List.nil_sublist _) ?_
    refine D_val rfl rfl rfl (R_loadH ty25 rfl (hA5.mono hU) rfl (fun _ => rfl) rfl) ?_
    refine D_val rfl rfl rfl (R_loadH ty54 rfl (hA2.mono hU) rfl (fun e => by cases e) rfl) ?_
    refine D_val rfl rfl rfl (R_move rfl) ?_
    refine D_val rfl rfl rfl (R_move rfl) ?_
    refine D_call rfl rfl c91 rfl trivial (at_spec d hok (s : Int) (pickD out xs) _ _ _ _ U (hd.mono hU) hsp ⟨by omega, by omega⟩ hlk hpk) ?_
    rintro _ V1 hle1 rfl
    refine D_val rfl rfl rfl (R_index sl25 ty3 rfl rfl hm) ?_
    refine D_val rfl rfl rfl (R_loadH ty3 rfl (hAt.mono hle1) rfl (fun _ => rfl) rfl) ?_
    refine D_val rfl rfl rfl (R_assign rfl) ?_
    refine D_done ?_
    refine Q_then ?_
    refine K_ret ?_
    refine results_gen (rs := [.tmp 7]) (vs := [_]) rfl ⟨rfl, trivial⟩ ?_
    rfl

theorem some2_spec (d : Dt) (out : List Int) (q : Nat) (b2 b3 : Nat) (ov w1 w2 w3 : Value) (H : View) (hd : RepDt H d w1 w2 w3) (hA2 : At H b2 0 [w1, w2, w3]) (hA3 : At H b3 0 [ov]) (hov : SI H ov out) (hq : q < out.length) (hst : States d out) :
    Sat Tryd.prog F92 #[.int .i64 (q : Int), ptr b2, ptr b3] H (fun r _ => r = .bool (d.acc.getD (out.getD q 0).toNat false)) := by
  obtain ⟨oa, oc, rfl⟩ := hov.shape
  obtain ⟨ua1, uc1x, rfl⟩ := hd.r.shape
  obtain ⟨ua2, uc2x, rfl⟩ := hd.a.shape
  obtain ⟨ua3, uc3x, rfl⟩ := hd.t.shape
  have hoq := hst _ (List.getElem_mem hq)
  have hol : out[q].toNat < d.acc.length := by omega
  obtain ⟨ob, oo, hoe, hoa⟩ := hov.get hq
  cases hoe
  obtain ⟨tb, to_, hte, hta⟩ := hd.a.get hol
  cases hte
  have hA21 := hA2.one (j := 1) rfl
  refine enterO (n := 13) (args := [.int .i64 (q : Int), ptr b2, ptr b3]) Tryd.func92 rfl rfl rfl fun w0 => ?_
  refine K_seq ?_
  refine K_region ?_
  refine KV (R_assign rfl) rfl ?_
  refine K_nil ?_
  refine Q_then ?_
  refine K_seq ?_
  refine K_regionD (fin := false) (R := [0, 1, 2, 3, 4, 5, 6, 7, 8]) (by kernel_rfl) mixed (List.nil_sublist _) ?_
  refine D_val rfl rfl rfl (R_fieldAddr 1 fd54_1 rfl) ?_
  refine D_val rfl rfl rfl (R_loadH ty52 rfl (hA21) rfl (fun _ => rfl) rfl) ?_
  refine D_val rfl rfl rfl (R_loadH ty25 rfl (hA3) rfl (fun _ => rfl) rfl) ?_
  refine D_val rfl rfl rfl (R_move rfl) ?_
  refine D_val rfl rfl rfl (R_index sl25 ty3 rfl rfl ⟨by omega, by omega⟩) ?_
  refine D_val rfl rfl rfl (R_loadH ty3 rfl (hoa) rfl (fun _ => rfl) rfl) ?_
  refine D_val rfl rfl rfl (R_index sl52 ty4 rfl rfl hoq) ?_
  refine D_val rfl rfl rfl (R_loadH ty4 rfl (hta) rfl (fun _ => rfl) rfl) ?_
  refine D_val rfl rfl rfl (R_assign rfl) ?_
  refine D_done ?_
  refine Q_then ?_
  refine K_ret ?_
  refine results_gen (rs := [.tmp 4]) (vs := [_]) rfl ⟨rfl, trivial⟩ ?_
  refine congrArg Value.bool ?_
  simp [List.getD, hq, hol]

theorem some_spec (d : Dt) (hok : DtOk d) (hn64 : d.acc.length ≤ 64) (out : List Int) (hf : FoundOk d out) (w1 w2 w3 ov : Value) (H : View) (hd : RepDt H d w1 w2 w3) (hov : SI H ov out) :
    Sat Tryd.prog F70 #[.agg #[w1, w2, w3], ov] H (fun r H' => ∃ u1 u2 u3, r = .agg #[u1, u2, u3] ∧ RepDt H' ⟨d.ranks, (List.range out.length).map fun q => d.acc.getD (out.getD q 0).toNat false, (List.range d.ranks.length).map fun z => (tups out.length (d.ranks.getD z 0).toNat).map fun xs => asD out (atM d (z : Int) (pickD out xs))⟩ u1 u2 u3) := by
  obtain ⟨oa, oc, rfl⟩ := hov.shape
  have hol := hf.len
  have hn := hok.n
  obtain ⟨ua1, uc1x, rfl⟩ := hd.r.shape
  obtain ⟨ua2, uc2x, rfl⟩ := hd.a.shape
  obtain ⟨ua3, uc3x, rfl⟩ := hd.t.shape
  refine enterO (n := 31) (args := [.agg #[.slice ua1 d.ranks.length uc1x, .slice ua2 d.acc.length uc2x, .slice ua3 d.to.length uc3x], .slice oa out.length oc]) Tryd.func70 rfl rfl rfl fun w0 => ?_
  refine K_seq ?_
  refine K_region ?_
  refine KA (A_box rfl) rfl fun b2 => ?_
  refine KA (A_box rfl) rfl fun b3 => ?_
  refine KA (A_alloc z54) rfl fun b4 => ?_
  refine K_nil ?_
  refine Q_then ?_
  refine K_seq ?_
  refine K_region ?_
  refine KV (R_fieldAddr 1 fd54_1 rfl) rfl ?_
  refine KV (R_loadO ty52 2 rfl rfl rfl rfl (fun _ => rfl) rfl) rfl ?_
  refine KV (R_len sl52 rfl) rfl ?_
  refine KA (A_makeSlice ap25 z3 ty3 rfl rfl (by omega) (by omega)) rfl fun b11 => ?_
  refine KA (A_alloc z25) rfl fun b5 => ?_
  refine K_store ty25 0 rfl rfl rfl rfl rfl rfl ?_
  refine K_nil ?_
  refine Q_then ?_
  refine K_seq ?_
  refine K_seq ?_
  refine K_region ?_
  refine KV (R_loadO ty25 3 rfl rfl rfl rfl (fun _ => rfl) rfl) rfl ?_
  refine KV (R_len sl25 rfl) rfl ?_
  refine KV (R_move rfl) rfl ?_
  refine K_nil ?_
  refine Q_then ?_
  refine K_block ?_
  refine K_loopD (G := Nat) [6, 7, 14, 15, 16, 17, 18, 19, 20, 21, 22, 23] (fun g => [(14, .int .i64 (g : Int))]) (fun hl g => (hl.set 1 (blk b11 (.cells (asArr d.acc.length (out.take g)) T3 (0, 0))))) (fun g => H) (fun g => (g ≤ out.length)) (fun g => out.length - g) (0 : Nat) (Nat.zero_le _) ⟨rfl, trivial⟩ (by simp only [args0, Nat.reduceAdd, del, memN, beqN, Nat.reduceBEq, cond_true, cond_false]; rfl) (by simp only [List.take_zero]; rw [← made_ints]; rfl) rfl ?_
  rintro j hj
  try dsimp only at hj
  dsimp only [List.set, List.cons_append, List.nil_append]
  refine K_seq ?_
  refine K_region ?_
  refine KV (R_cmp rfl rfl rfl) rfl ?_
  refine K_nil ?_
  refine Q_then ?_
  refine K_seq ?_
  refine K_if rfl (fun h15 => ?_) (fun h15 => ?_)
  ·
    have hj2 : j < out.length := by omega
    obtain ⟨tb, to_, hte, hta⟩ := hov.get hj2
    cases hte
    have hq := hf.st _ (List.getElem_mem hj2)
    refine K_skip ?_
    refine Q_then ?_
    refine K_seq ?_
    refine K_block ?_
    refine K_seq ?_
    refine K_region ?_
    refine KV (R_move rfl) rfl ?_
    refine KV (R_indexN sl25 ty3 rfl rfl (by omega)) rfl ?_
    refine KV (R_loadH ty3 rfl (hta) rfl (fun _ => rfl) rfl) rfl ?_
    refine KV (R_assign rfl) rfl ?_
    refine KV (R_assign rfl) rfl ?_
    refine K_nil ?_
    refine Q_then ?_
    refine K_region ?_
    refine KV (R_loadO ty25 0 rfl rfl rfl rfl (fun _ => rfl) rfl) rfl ?_
    refine KV (R_move rfl) rfl ?_
    refine KV (R_move rfl) rfl ?_
    refine KV (R_index sl25 ty3 rfl rfl hq) rfl ?_
    refine K_storeE ty3 1 rfl rfl rfl rfl (by rw [asArr_size]; show _ + 1 ≤ _; omega) rfl (asArr_step hf.nd hj2 hq (by omega)) ?_
    refine K_nil ?_
    refine Q_block ?_
    refine Q_then ?_
    refine K_region ?_
    refine KV (R_add rfl rfl (by omega)) rfl ?_
    refine KV (R_move rfl) rfl ?_
    refine K_nil ?_
    refine Q_nextD ((j + 1)) hj2 (by (try dsimp only); omega) ⟨rfl, trivial⟩ rfl rfl rfl
  ·
    have hj2 : j = out.length := by omega
    rw [hj2, List.take_length]
    refine K_exit ?_
    refine Q_then_exit ?_
    refine Q_then_exit ?_
    refine Q_block_exit ?_
    refine Q_then ?_
    refine K_seq ?_
    refine KC_pubF fun Va hva hb5 => ?_
    refine KC_pubF fun Vb hvb hb11 => ?_
    refine KC_front 1 rfl ?_
    refine KC_pubF fun Vc hvc hb3 => ?_
    refine KC_front 1 rfl ?_
    refine KC_pubF fun U hvd hb2 => ?_
    dsimp only [List.eraseIdx]
    have hU := hva.trans (hvb.trans (hvc.trans hvd))
    have hA2 := At.of hb2
    have hA3 := (At.of hb3).mono hvd
    have hA5 := (At.of hb5).mono (hvb.trans (hvc.trans hvd))
    have has := (At.of hb11).mono (hvc.trans hvd)
    have hto : ∀ H' (s : Nat) xs v, VLe U H' → s < d.ranks.length → xs ∈ tups out.length (d.ranks.getD s 0).toNat → SI H' v xs → Sat Tryd.prog F90 ([] ++ [Value.int .i64 (s : Int), v] ++ [ptr b3, ptr b5, ptr b2]).toArray H' (fun r _ => r = .int .i64 (asD out (atM d (s : Int) (pickD out xs)))) := fun H' s xs v hle hs hxs hsi => some1_spec d hok out s xs b3 b5 b2 b11 v _ _ _ _ H' (hd.mono (hU.trans hle)) (hA2.mono hle) (hA3.mono hle) (hov.mono (hU.trans hle)) (hA5.mono hle) (has.mono hle) hsi hs hxs hf.st (by omega)
    have hfi : ∀ H' (q : Nat), VLe U H' → q < out.length → Sat Tryd.prog F92 ([] ++ [Value.int .i64 (q : Int)] ++ [ptr b2, ptr b3]).toArray H' (fun r _ => r = .bool (d.acc.getD (out.getD q 0).toNat false)) := fun H' q hle hq => some2_spec d out q b2 b3 _ _ _ _ H' (hd.mono (hU.trans hle)) (hA2.mono hle) (hA3.mono hle) (hov.mono (hU.trans hle)) hq hf.st
    refine K_region ?_
    refine KV (R_fieldAddr 0 fd54_0 rfl) rfl ?_
    refine KV (R_loadH ty47 rfl (hA2.one (j := 0) rfl) rfl (fun _ => rfl) rfl) rfl ?_
    refine KV (R_loadH ty25 rfl (hA3) rfl (fun _ => rfl) rfl) rfl ?_
    refine KV (R_len sl25 rfl) rfl ?_
    refine KV (R_makeFunc rfl rfl) rfl ?_
    refine KV (R_makeFunc rfl rfl) rfl ?_
    refine K_call c89 rfl rfl (made_spec out.length d.ranks _ F90 F92 [ptr b3, ptr b5, ptr b2] [ptr b2, ptr b3] (fun z xs => asD out (atM d (z : Int) (pickD out xs))) (fun q => d.acc.getD (out.getD q 0).toNat false) U (hd.r.mono hU) hok.rk (by omega) c90 c92 hto hfi (fun s xs _ _ => asD_ok (by omega))) ?_
    rintro _ V5 hv5 ⟨u1, u2, u3, rfl, hX⟩
    obtain ⟨xa1, xc1, rfl⟩ := hX.r.shape
    obtain ⟨xa2, xc2, rfl⟩ := hX.a.shape
    obtain ⟨xa3, xc3, rfl⟩ := hX.t.shape
    refine K_store ty54 0 rfl rfl rfl rfl rfl rfl ?_
    refine K_nil ?_
    refine Q_then ?_
    refine K_ret ?_
    refine results_gen (rs := [.cell 4 54]) (vs := [_]) rfl ⟨⟨_, _, _, _, _, _, 0, rfl, rfl, ty54, (fun e => by cases e), rfl, rfl⟩, trivial⟩ ?_
    exact ⟨_, _, _, rfl, hX⟩

theorem trim_spec (d : Dt) (hb : d.ranks.length ≤ 1048576 ∧ d.acc.length ≤ 1048576 ∧ d.to.length ≤ 1048576 ∧ ∀ x ∈ d.to, x.length ≤ 1048576) (hn64 : d.acc.length ≤ 64) (w1 w2 w3 : Value) (H : View) (hd : RepDt H d w1 w2 w3) :
    Sat Tryd.prog F33 #[.agg #[w1, w2, w3]] H (fun r H' => ∃ u1 u2 u3, r = .tuple #[.agg #[u1, u2, u3], .int .i64 (dtErr d)] ∧ RepDt H' (if dtErr d ≠ 0 then ⟨[], [], []⟩ else trimD d) u1 u2 u3) := by
  obtain ⟨ua1, uc1x, rfl⟩ := hd.r.shape
  obtain ⟨ua2, uc2x, rfl⟩ := hd.a.shape
  obtain ⟨ua3, uc3x, rfl⟩ := hd.t.shape
  refine enterO (n := 15) (args := [.agg #[.slice ua1 d.ranks.length uc1x, .slice ua2 d.acc.length uc2x, .slice ua3 d.to.length uc3x]]) Tryd.func33 rfl rfl rfl fun w0 => ?_
  refine K_seq ?_
  refine K_region ?_
  refine KA (A_box rfl) rfl fun b1 => ?_
  refine KA (A_alloc z54) rfl fun b2 => ?_
  refine KV (R_assign rfl) rfl ?_
  refine K_nil ?_
  refine Q_then ?_
  refine K_seq ?_
  refine K_seq ?_
  refine K_region ?_
  refine KV (R_loadO ty54 1 rfl rfl rfl rfl (fun e => by cases e) rfl) rfl ?_
  refine K_call c63 rfl rfl (dcheck_spec d _ _ _ H hd hb) ?_
  rintro _ V1 hv1 rfl
  refine KV (R_assign rfl) rfl ?_
  refine K_nil ?_
  refine Q_then ?_
  refine K_seq ?_
  refine K_region ?_
  refine KV (R_move rfl) rfl ?_
  refine KV (R_cmp rfl rfl rfl) rfl ?_
  refine K_nil ?_
  refine Q_then ?_
  refine K_if rfl (fun h8 => ?_) (fun h8 => ?_)
  ·
    refine K_seq ?_
    refine K_region ?_
    refine KV (R_build z54 pl54 rfl rfl) rfl ?_
    refine KV (R_move rfl) rfl ?_
    refine K_store ty54 0 rfl rfl rfl rfl rfl rfl ?_
    refine KV (R_assign rfl) rfl ?_
    refine K_nil ?_
    refine Q_then ?_
    refine K_ret ?_
    refine Q_then_ret ?_
    refine results_gen (rs := [.cell 2 54, .tmp 3]) (vs := [_, _]) rfl ⟨⟨_, _, _, _, _, _, 0, rfl, rfl, ty54, (fun e => by cases e), rfl, rfl⟩, ⟨rfl, trivial⟩⟩ ?_
    rw [if_pos (by omega)]
    exact ⟨_, _, _, rfl, RepDt.nil _⟩
  ·
    have hd0 : dtErr d = 0 := by omega
    have hok := DtOk.of hd0
    refine K_skip ?_
    refine Q_then ?_
    refine K_seq ?_
    refine K_regionD (fin := false) (R := [0, 1, 2, 3, 4, 5]) (by kernel_rfl) mixed (.cons _ (.cons_cons _ (List.nil_sublist _))) ?_
    refine D_val rfl rfl rfl (R_loadO ty54 0 rfl rfl rfl rfl (fun e => by cases e) rfl) ?_
    refine D_val rfl rfl rfl (R_loadO ty54 0 rfl rfl rfl rfl (fun e => by cases e) rfl) ?_
    refine D_call rfl rfl c71 rfl ⟨⟨1, rfl⟩, trivial⟩ (found_spec d hok hn64 _ _ _ V1 (hd.mono hv1)) ?_
    rintro ov V2 hv2 ⟨hov, hfo⟩
    obtain ⟨oa, oc, rfl⟩ := hov.shape
    refine D_call rfl rfl c70 rfl ⟨⟨1, rfl⟩, trivial⟩ (some_spec d hok hn64 (foundD d) hfo _ _ _ _ V2 (hd.mono (hv1.trans hv2)) hov) ?_
    rintro _ V3 hv3 ⟨u1, u2, u3, rfl, hX⟩
    obtain ⟨xa1, xc1, rfl⟩ := hX.r.shape
    obtain ⟨xa2, xc2, rfl⟩ := hX.a.shape
    obtain ⟨xa3, xc3, rfl⟩ := hX.t.shape
    refine D_store ty54 0 rfl rfl rfl rfl rfl ⟨⟨0, rfl⟩, trivial⟩ rfl rfl rfl ?_
    refine D_val rfl rfl rfl (R_assign rfl) ?_
    refine D_done ?_
    refine Q_then ?_
    refine K_ret ?_
    refine results_gen (rs := [.cell 2 54, .tmp 3]) (vs := [_, _]) rfl ⟨⟨_, _, _, _, _, _, 0, rfl, rfl, ty54, (fun e => by cases e), rfl, rfl⟩, ⟨rfl, trivial⟩⟩ ?_
    rw [if_neg (by omega), hd0, trim_eq]
    exact ⟨_, _, _, rfl, hX⟩
end Go.Proofs.X

namespace Go.Proofs.X
open Go Pal Go.Proofs
attribute [local irreducible] Pal.KO Pal.KC Pal.KQ Pal.KD

theorem visitV_spec (n k gf : Nat) (cap : List Value) (T : List (List Int)) (E : List (List Int) → View → HL → Prop) (H0 : View) (hV : VisitV Tryd.prog gf cap H0 T E) (hcal : callable Tryd.prog gf = true) (hk : k ≤ 1099511627776) (hn : n ≤ 1099511627776)
    (b1 b2 b3 b4 : Nat) : ∀ m xs pre a len cp H p, xs.length = len → VLe H0 H → len + m = n → SI H (.slice a len cp) xs → len ≤ cp → E pre H p → (pre ++ ext k m xs) <+: T →
    At H b1 0 [.int .i64 (n : Int)] → At H b2 0 [.func (.func gf) #[] cap.toArray] → At H b3 0 [.int .i64 (k : Int)] → At H b4 0 [.func (.func F83) #[] #[ptr b1, ptr b2, ptr b3, ptr b4]] →
    SatO Tryd.prog F83 #[.slice a len cp, ptr b1, ptr b2, ptr b3, ptr b4] H p (fun v V' q => ∃ r : Bool, v = .bool r ∧ r = true ∧ E (pre ++ ext k m xs) V' q) := by
  intro m
  induction m using Nat.strongRecOn with | _ m ih =>
  intro xs pre a len cp H p hlen h0 hm hs hcp hE hpf h1 h2 h3 h4
  refine enterO (n := 28) (args := [.slice a len cp, ptr b1, ptr b2, ptr b3, ptr b4]) Tryd.func83 rfl rfl rfl fun w0 => ?_
  refine K_seq ?_
  refine K_region ?_
  refine KV (R_assign rfl) rfl ?_
  refine K_nil ?_
  refine Q_then ?_
  refine K_seq ?_
  refine K_seq ?_
  refine K_region ?_
  refine KV (R_move rfl) rfl ?_
  refine KV (R_len sl25 rfl) rfl ?_
  refine KV (R_loadH ty3 rfl (h1) rfl (fun _ => rfl) rfl) rfl ?_
  refine KV (R_cmp rfl rfl rfl) rfl ?_
  refine K_nil ?_
  refine Q_then ?_
  refine K_if rfl (fun h11 => ?_) (fun h11 => ?_)
  ·
    have hm0 : m = 0 := by omega
    subst hm0
    refine K_seq ?_
    refine K_region ?_
    refine KV (R_loadH ty108 rfl (h2) rfl (fun _ => rfl) rfl) rfl ?_
    refine KV (R_move rfl) rfl ?_
    refine K_callO (first := []) p [] (by rw [List.append_nil]) hcal rfl rfl rfl (hV.2 H pre xs a len cp p hlen h0 hE hpf hs hcp) ?_
    rintro _ V1 q hle ⟨rfl, hr1⟩
    refine KV (R_assign rfl) rfl ?_
    refine K_nil ?_
    refine Q_then ?_
    refine K_ret ?_
    refine Q_then_ret ?_
    refine results_gen (rs := [.tmp 6]) (vs := [_]) rfl ⟨rfl, trivial⟩ ?_
    exact ⟨true, rfl, rfl, by rw [List.append_nil]; exact hr1⟩
  ·
    obtain ⟨m, rfl⟩ : ∃ m', m = m' + 1 := ⟨m - 1, by omega⟩
    refine K_skip ?_
    refine Q_then ?_
    refine K_seq ?_
    refine K_seq ?_
    refine K_region ?_
    refine KV (R_loadH ty3 rfl (h3) rfl (fun _ => rfl) rfl) rfl ?_
    refine KV (R_move rfl) rfl ?_
    refine K_nil ?_
    refine Q_then ?_
    refine K_block ?_
    refine K_loop (G := Nat × View × HL) ⟨fun g => [(0, .slice a len cp), (1, ptr b1), (2, ptr b2), (3, ptr b3), (4, ptr b4), (15, .int .i64 (k : Int)), (16, .int .i64 (g.1 : Int))], fun g => g.2.2, fun g => g.2.1, fun g => g.1 ≤ k ∧ VLe H g.2.1 ∧ E (pre ++ extTo k m xs g.1) g.2.1 g.2.2, fun g => k - g.1⟩ (0, H, p) ⟨Nat.zero_le _, VLe.refl H, by simpa [extTo] using hE⟩ ⟨rfl, rfl, rfl, rfl, rfl, rfl, rfl, trivial⟩ rfl rfl ?_
    rintro ⟨i, V, p'⟩ ⟨hi0, hV1, hE1⟩
    dsimp only at hi0 hV1 hE1 ⊢
    refine K_seq ?_
    refine K_region ?_
    refine KV (R_cmp rfl rfl rfl) rfl ?_
    refine K_nil ?_
    refine Q_then ?_
    refine K_seq ?_
    refine K_if rfl (fun h17 => ?_) (fun h17 => ?_)
    ·
      have hi : i < k := by omega
      refine K_skip ?_
      refine Q_then ?_
      refine K_seq ?_
      refine K_block ?_
      refine K_seq ?_
      refine K_region ?_
      refine KV (R_move rfl) rfl ?_
      refine KV (R_assign rfl) rfl ?_
      refine K_nil ?_
      refine Q_then ?_
      refine K_seq ?_
      refine K_regionD (fin := false) (R := [0, 1, 3, 2, 4, 5, 6, 7]) (by kernel_rfl) mixed (List.nil_sublist _) ?_
      refine D_val rfl rfl rfl (R_loadH ty108 rfl (h4.mono hV1) rfl (fun _ => rfl) rfl) ?_
      refine D_val rfl rfl rfl (R_move rfl) ?_
      refine D_val rfl rfl rfl (R_move rfl) ?_
      refine D_call rfl rfl c84 rfl trivial (clip_spec a len cp hcp V) ?_
      rintro _ V2 hle2 rfl
      refine D_alloc rfl rfl rfl (A_buildSlice (vs := [.int .i64 (i : Int)]) sl25 ty3 z3 rfl rfl (by simp [Value.cells]) (by simp) rfl (by decide)) fun b23 => ?_
      refine D_appendPub1 ap25 rfl rfl rfl ((hlen ▸ hs.1.mono (hV1.trans hle2)).recap len) (by simp [ints, hlen]) rfl rfl trivial rfl ⟨by omega, by omega⟩ fun v24 V3 hle3 hv24 => ?_
      obtain ⟨hsl, a24, c24, rfl, hc24⟩ := hv24
      refine D_callO (first := []) p' [] rfl rfl c83 rfl rfl (by rw [List.append_nil]) trivial (ih m (by omega) (xs ++ [(i : Int)]) (pre ++ extTo k m xs i) a24 (len + 1) c24 V3 p' (by simp [hlen]) (h0.trans (hV1.trans (hle2.trans hle3))) (by omega) (by subst hlen; exact SI.snoc hs.2 (by omega) hsl) hc24 (hV.1 _ _ _ _ (hle2.trans hle3) hE1) ?_ (h1.mono (hV1.trans (hle2.trans hle3))) (h2.mono (hV1.trans (hle2.trans hle3))) (h3.mono (hV1.trans (hle2.trans hle3))) (h4.mono (hV1.trans (hle2.trans hle3)))) ?_
      · exact ext_prefix hi hpf
      rintro _ V4 q hle4 ⟨r, rfl, hr, hr1⟩
      refine D_val rfl rfl rfl (R_not rfl) ?_
      refine D_done ?_
      refine Q_then ?_
      cases r with
      | false =>
        refine K_ifT rfl ?_
        refine K_seq ?_
        refine K_region ?_
        refine KV (R_assign rfl) rfl ?_
        refine K_nil ?_
        refine Q_then ?_
        refine K_ret ?_
        refine Q_block_ret ?_
        refine Q_then_ret ?_
        refine Q_then_ret ?_
        refine Q_block_ret ?_
        refine Q_then_ret ?_
        refine results_gen (rs := [.tmp 6]) (vs := [_]) rfl ⟨rfl, trivial⟩ ?_
        cases hr
      | true =>
        refine K_ifF rfl ?_
        refine K_skip ?_
        refine Q_block ?_
        refine Q_then ?_
        refine K_region ?_
        refine KV (R_add rfl rfl (by omega)) rfl ?_
        refine KV (R_move rfl) rfl ?_
        refine K_nil ?_
        refine Q_next (i + 1, V4, q) ⟨hi, hV1.trans (hle2.trans (hle3.trans hle4)), ?_⟩ (by dsimp only; omega) ⟨rfl, rfl, rfl, rfl, rfl, rfl, rfl, trivial⟩ (List.append_nil _) rfl
        rw [extTo_succ, ← List.append_assoc]
        exact hr1
    ·
      have hi : i = k := by omega
      subst hi
      refine K_exit ?_
      refine Q_then_exit ?_
      refine Q_then_exit ?_
      refine Q_block_exit ?_
      refine Q_then ?_
      refine K_seq ?_
      refine K_region ?_
      refine KV (R_assign rfl) rfl ?_
      refine K_nil ?_
      refine Q_then ?_
      refine K_ret ?_
      refine results_gen (rs := [.tmp 6]) (vs := [_]) rfl ⟨rfl, trivial⟩ ?_
      exact ⟨true, rfl, rfl, hE1⟩

theorem tuplesV_spec (n k gf : Nat) (cap : List Value) (E : List (List Int) → View → HL → Prop) (H : View) (p : HL) (hV : VisitV Tryd.prog gf cap H (ext k n []) E) (hcal : callable Tryd.prog gf = true) (hk : k ≤ 1099511627776) (hn : n ≤ 1099511627776) (hE : E [] H p) :
    SatO Tryd.prog F48 #[.int .i64 (n : Int), .int .i64 (k : Int), .func (.func gf) #[] cap.toArray] H p (fun _ V' q => E (ext k n []) V' q) := by
  refine enterO (n := 11) (args := [.int .i64 (n : Int), .int .i64 (k : Int), .func (.func gf) #[] cap.toArray]) Tryd.func48 rfl rfl rfl fun w0 => ?_
  refine K_seq ?_
  refine K_region ?_
  refine KA (A_box rfl) rfl fun b3 => ?_
  refine KA (A_box rfl) rfl fun b4 => ?_
  refine KA (A_box rfl) rfl fun b5 => ?_
  refine KV (R_assign rfl) rfl ?_
  refine K_nil ?_
  refine Q_then ?_
  refine K_seq ?_
  refine K_region ?_
  refine KA (A_alloc z108) rfl fun b7 => ?_
  refine K_nil ?_
  refine Q_then ?_
  refine K_seq ?_
  refine K_region ?_
  refine KV (R_makeFunc rfl rfl) rfl ?_
  refine K_store ty108 0 rfl rfl rfl rfl rfl rfl ?_
  refine K_nil ?_
  refine KQ_pubF fun V1 hle1 hb7 => ?_
  refine KQ_pubF fun V2 hle2 hb5 => ?_
  refine KQ_pubF fun V3 hle3 hb4 => ?_
  refine KQ_pubF fun V4 hle4 hb3 => ?_
  have hv4 := hle1.trans (hle2.trans (hle3.trans hle4))
  refine Q_then ?_
  refine K_seq ?_
  refine K_region ?_
  refine KV (R_loadH ty108 rfl ((At.of hb7).mono (hle2.trans (hle3.trans hle4))) rfl (fun _ => rfl) rfl) rfl ?_
  refine K_callO (first := []) p [] (by rw [List.append_nil]) c83 rfl rfl rfl (visitV_spec n k gf cap (ext k n []) E H hV hcal hk hn b3 b5 b4 b7 n [] [] none 0 0 V4 p rfl hv4 (by omega) ⟨⟨none, 0, rfl, .inl ⟨rfl, rfl⟩⟩, by simp⟩ (Nat.le_refl _) (hV.1 _ _ _ _ hv4 hE) (List.prefix_refl _) (At.of hb3) ((At.of hb5).mono (hle3.trans hle4)) ((At.of hb4).mono hle4) ((At.of hb7).mono (hle2.trans (hle3.trans hle4)))) ?_
  rintro _ V5 q hle5 ⟨r, rfl, hr, hr1⟩
  refine KV (R_assign rfl) rfl ?_
  refine K_nil ?_
  refine Q_then ?_
  refine K_ret ?_
  refine results_gen (rs := [.tmp 6]) (vs := [_]) rfl ⟨rfl, trivial⟩ ?_
  rw [List.append_nil]; exact hr1

theorem ruleout_spec (d : Dt) (hok : DtOk d) (s i k n : Nat) (xs : List Int) (b9 b10 b1 b12 : Nat) (w1 w2 w3 vr v : Value) (ua : Option Addr) (uc : Nat) (cells : List Value) (H : View) (hd : RepDt H d w1 w2 w3) (hA1 : At H b1 0 [w1, w2, w3]) (hA10 : At H b10 0 [.int .i64 (s : Int)]) (hv : SI H v xs)
    (hs : s < d.ranks.length) (hi : i < (tups d.acc.length (d.ranks.getD s 0).toNat).length) (hx : (tups d.acc.length (d.ranks.getD s 0).toNat)[i] = xs) (hk : k ≤ 1048576) (hi2 : i ≤ 1048576) :
    SatO Tryd.prog F64 #[v, ptr b9, ptr b10, ptr b1, ptr b12] H [blk b9 (.cells #[vr, .int .i64 (n : Int), .slice ua k uc, nilS] T50 (0, 0)), row (.slice ua k uc) T85 3 k cells, blk b12 (.cells #[.int .i64 (i : Int)] T3 (0, 0))]
      (fun r V' q => r = .bool true ∧ ∃ ua' uc' v', q = [blk b9 (.cells #[vr, .int .i64 (n : Int), .slice ua' (k + 1) uc', nilS] T50 (0, 0)), row (.slice ua' (k + 1) uc') T85 3 (k + 1) (cells ++ [.int .i64 (s : Int), v', .int .i64 (atM d (s : Int) xs)]), blk b12 (.cells #[.int .i64 ((i : Int) + 1)] T3 (0, 0))] ∧ ∃ a cp, v' = .slice a xs.length cp ∧ SI V' v' xs) := by
  obtain ⟨xa, xcp, rfl⟩ := hv.shape
  obtain ⟨ua1, uc1x, rfl⟩ := hd.r.shape
  obtain ⟨ua2, uc2x, rfl⟩ := hd.a.shape
  obtain ⟨ua3, uc3x, rfl⟩ := hd.t.shape
  obtain ⟨h1, h2, hat⟩ := at_place hok hs hi hx
  have hxl : xs.length ≤ 1048576 := by
    have h3 := (tups_item (List.getElem_mem hi)).1
    rw [hx] at h3
    have h4 := (ranksErr_ok hok.rk).2 s hs
    have e : d.ranks.getD s 0 = d.ranks[s] := by simp [List.getD, hs]
    rw [e] at h3; omega
  obtain ⟨db, do_, ea, ecp, hde, htx, hes⟩ := hd.t.get h1
  cases hde
  obtain ⟨fb, fo, hfe, hte⟩ := hes.get h2
  cases hfe
  have hA12 := hA1.one (j := 2) rfl
  refine enterO (n := 26) (args := [.slice xa xs.length xcp, ptr b9, ptr b10, ptr b1, ptr b12]) Tryd.func64 rfl rfl rfl fun w0 => ?_
  refine K_seq ?_
  refine K_region ?_
  refine KV (R_assign rfl) rfl ?_
  refine K_nil ?_
  refine Q_then ?_
  refine K_seq ?_
  refine K_regionD (fin := true) (R := [0, 1, 2, 3, 5, 6, 7, 8, 9, 10, 11, 12, 4, 13, 14, 15, 16, 17]) (by kernel_rfl) mixed (.cons_cons _ (.cons _ (.cons_cons _ (List.nil_sublist _)))) ?_
  refine D_val rfl rfl rfl (R_fieldAddr 2 fd50_2 rfl) ?_
  refine D_val rfl rfl rfl (R_loadO ty48 0 rfl rfl rfl rfl (fun _ => rfl) rfl) ?_
  refine D_val rfl rfl rfl (R_loadH ty3 rfl (hA10) rfl (fun _ => rfl) rfl) ?_
  refine D_val rfl rfl rfl (R_move rfl) ?_
  refine D_val rfl rfl rfl (R_fieldAddr 2 fd54_2 rfl) ?_
  refine D_val rfl rfl rfl (R_loadH ty44 rfl (hA12) rfl (fun _ => rfl) rfl) ?_
  refine D_val rfl rfl rfl (R_loadH ty3 rfl (hA10) rfl (fun _ => rfl) rfl) ?_
  refine D_val rfl rfl rfl (R_index sl44 ty25 rfl rfl ⟨by omega, by omega⟩) ?_
  refine D_val rfl rfl rfl (R_loadH ty25 rfl (htx) rfl (fun _ => rfl) rfl) ?_
  refine D_val rfl rfl rfl (R_loadO ty3 1 rfl rfl rfl rfl (fun _ => rfl) rfl) ?_
  refine D_val rfl rfl rfl (R_index sl25 ty3 rfl rfl ⟨by omega, by omega⟩) ?_
  refine D_val rfl rfl rfl (R_loadH ty3 rfl (hte) rfl (fun _ => rfl) rfl) ?_
  refine D_call rfl rfl c65 rfl ⟨⟨0, rfl⟩, ⟨2, rfl⟩, trivial⟩ (clone25_spec xs _ H hv (by omega)) ?_
  rintro cv V1 hle1 hcv
  obtain ⟨ca, cc, rfl⟩ := hcv.shape
  refine D_val rfl rfl rfl (R_build z85 pl85 rfl rfl) ?_
  refine D_alloc rfl rfl rfl (A_buildSlice (vs := [.agg #[.int .i64 (s : Int), .slice ca xs.length cc, .int .i64 d.to[s][i]]]) sl48 ty85 z85 rfl rfl (by simp [Value.cells]) (by simp) rfl (by decide)) fun b21 => ?_
  refine D_append1 1 ap48 rfl rfl rfl rfl rfl rfl ⟨⟨0, rfl⟩, ⟨1, rfl⟩, trivial⟩ rfl rfl ⟨by omega, by omega⟩ fun a22 k22 hn22 => ?_
  refine D_val rfl rfl rfl (R_fieldAddr 2 fd50_2 rfl) ?_
  refine D_lastStore ty48 1 rfl rfl rfl rfl rfl rfl rfl rfl ?_
  refine Q_then ?_
  refine K_seq ?_
  refine K_region ?_
  refine KV (R_loadO ty3 2 rfl rfl rfl rfl (fun _ => rfl) rfl) rfl ?_
  refine KV (R_add rfl rfl (by omega)) rfl ?_
  refine K_store ty3 2 rfl rfl rfl rfl rfl rfl ?_
  refine K_nil ?_
  refine Q_then ?_
  refine K_seq ?_
  refine K_region ?_
  refine KV (R_assign rfl) rfl ?_
  refine K_nil ?_
  refine Q_then ?_
  refine K_ret ?_
  refine results_sel [1, 0, 0] rfl (rs := [.tmp 6]) (vs := [_]) rfl ⟨rfl, trivial⟩ ?_
  rw [hat]
  exact ⟨rfl, a22, k22, _, rfl, ca, cc, rfl, hcv⟩
end Go.Proofs.X

namespace Go.Proofs.X
open Go Pal Go.Proofs
attribute [local irreducible] Pal.KO Pal.KC Pal.KQ Pal.KD
theorem c64 : callable Tryd.prog F64 = true := by kernel_rfl
theorem tonta_spec (d : Dt) (hb : d.ranks.length ≤ 1048576 ∧ d.acc.length ≤ 1048576 ∧ d.to.length ≤ 1048576 ∧ ∀ x ∈ d.to, x.length ≤ 1048576) (hsm : dtErr d = 0 → d.acc.length ≤ 5 ∧ d.ranks.length ≤ 8) (w1 w2 w3 : Value) (H : View) (hd : RepDt H d w1 w2 w3) :
    Sat Tryd.prog F27 #[.agg #[w1, w2, w3]] H (fun r H' => ∃ v1 v2 v3, r = .tuple #[.agg #[v1, .int .i64 (if dtErr d ≠ 0 then (⟨[], 0, [], []⟩ : Au) else ntaM d).states, v2, v3], .int .i64 (dtErr d)] ∧ RepAu H' (if dtErr d ≠ 0 then ⟨[], 0, [], []⟩ else ntaM d) v1 v2 v3) := by
  obtain ⟨ua1, uc1x, rfl⟩ := hd.r.shape
  obtain ⟨ua2, uc2x, rfl⟩ := hd.a.shape
  obtain ⟨ua3, uc3x, rfl⟩ := hd.t.shape
  refine enterO (n := 78) (args := [.agg #[.slice ua1 d.ranks.length uc1x, .slice ua2 d.acc.length uc2x, .slice ua3 d.to.length uc3x]]) Tryd.func27 rfl rfl rfl fun w0 => ?_
  refine K_seq ?_
  refine K_region ?_
  refine KA (A_box rfl) rfl fun b1 => ?_
  refine KA (A_alloc z50) rfl fun b2 => ?_
  refine KV (R_assign rfl) rfl ?_
  refine K_nil ?_
  refine Q_then ?_
  refine K_seq ?_
  refine K_seq ?_
  refine K_region ?_
  refine KV (R_loadO ty54 1 rfl rfl rfl rfl (fun e => by cases e) rfl) rfl ?_
  refine K_call c63 rfl rfl (dcheck_spec d _ _ _ H hd hb) ?_
  rintro _ V1 hv1 rfl
  refine KV (R_assign rfl) rfl ?_
  refine K_nil ?_
  refine Q_then ?_
  refine K_seq ?_
  refine K_region ?_
  refine KV (R_move rfl) rfl ?_
  refine KV (R_cmp rfl rfl rfl) rfl ?_
  refine K_nil ?_
  refine Q_then ?_
  refine K_if rfl (fun h18 => ?_) (fun h18 => ?_)
  ·
    refine K_seq ?_
    refine K_region ?_
    refine KV (R_build z50 pl50 rfl rfl) rfl ?_
    refine KV (R_move rfl) rfl ?_
    refine K_store ty50 0 rfl rfl rfl rfl rfl rfl ?_
    refine KV (R_assign rfl) rfl ?_
    refine K_nil ?_
    refine Q_then ?_
    refine K_ret ?_
    refine Q_then_ret ?_
    refine results_gen (rs := [.cell 2 50, .tmp 3]) (vs := [_, _]) rfl ⟨⟨_, _, _, _, _, _, 0, rfl, rfl, ty50, (fun e => by cases e), rfl, rfl⟩, ⟨rfl, trivial⟩⟩ ?_
    rw [if_pos (by omega)]
    exact ⟨_, _, _, rfl, RepAu.nil _⟩
  ·
    have hd0 : dtErr d = 0 := by omega
    have hok := DtOk.of hd0
    obtain ⟨hn5, hr8⟩ := hsm hd0
    have htl := hok.tl
    refine K_skip ?_
    refine Q_then ?_
    refine K_seq ?_
    refine K_region ?_
    refine KV (R_fieldAddr 1 fd54_1 rfl) rfl ?_
    refine KV (R_loadO ty52 1 rfl rfl rfl rfl (fun _ => rfl) rfl) rfl ?_
    refine KV (R_len sl52 rfl) rfl ?_
    refine KV (R_assign rfl) rfl ?_
    refine KV (R_assign rfl) rfl ?_
    refine K_nil ?_
    refine KQ_front 1 rfl ?_
    refine KQ_pubF fun Vb hvb hb1 => ?_
    dsimp only [List.eraseIdx]
    have hA1 := At.of hb1
    have hA10 := hA1.one (j := 0) rfl
    have hA11 := hA1.one (j := 1) rfl
    have hA12 := hA1.one (j := 2) rfl
    refine Q_then ?_
    refine K_seq ?_
    refine K_seq ?_
    refine K_region ?_
    refine KV (R_fieldAddr 2 fd54_2 rfl) rfl ?_
    refine KV (R_loadH ty44 rfl (hA12) rfl (fun _ => rfl) rfl) rfl ?_
    refine KV (R_len sl44 rfl) rfl ?_
    refine KV (R_move rfl) rfl ?_
    refine K_nil ?_
    refine Q_then ?_
    refine K_block ?_
    refine K_loopD (G := Nat × Int) [6, 8, 27, 28, 29, 30, 31, 32, 33, 34, 35] (fun g => [(27, .int .i64 (g.1 : Int)), (6, .int .i64 g.2)]) (fun hl g => hl) (fun g => Vb) (fun g => (g.1 ≤ d.to.length) ∧ (0 ≤ g.2 ∧ g.2 ≤ 25 * (g.1 : Int))) (fun g => d.to.length - g.1) (0, 0) ⟨Nat.zero_le _, by decide⟩ ⟨rfl, rfl, trivial⟩ (by simp only [args0, Nat.reduceAdd, del, memN, beqN, Nat.reduceBEq, cond_true, cond_false]; rfl) rfl rfl ?_
    rintro ⟨k, z⟩ ⟨hk, hz⟩
    dsimp only at hk hz
    dsimp only [List.set, List.cons_append, List.nil_append]
    refine K_seq ?_
    refine K_region ?_
    refine KV (R_cmp rfl rfl rfl) rfl ?_
    refine K_nil ?_
    refine Q_then ?_
    refine K_seq ?_
    refine K_if rfl (fun h28 => ?_) (fun h28 => ?_)
    ·
      have hk2 : k < d.to.length := by omega
      have hk25 := to_len25 hok hn5 hk2
      obtain ⟨tb, to_, ea, ecp, hte, hta, hes⟩ := (hd.mono (hv1.trans hvb)).t.get hk2
      cases hte
      refine K_skip ?_
      refine Q_then ?_
      refine K_seq ?_
      refine K_block ?_
      refine K_seq ?_
      refine K_region ?_
      refine KV (R_indexN sl44 ty25 rfl rfl (by omega)) rfl ?_
      refine KV (R_loadH ty25 rfl (hta) rfl (fun _ => rfl) rfl) rfl ?_
      refine KV (R_assign rfl) rfl ?_
      refine K_nil ?_
      refine Q_then ?_
      refine K_region ?_
      refine KV (R_move rfl) rfl ?_
      refine KV (R_move rfl) rfl ?_
      refine KV (R_len sl25 rfl) rfl ?_
      refine KV (R_add rfl rfl (by omega)) rfl ?_
      refine KV (R_assign rfl) rfl ?_
      refine K_nil ?_
      refine Q_block ?_
      refine Q_then ?_
      refine K_region ?_
      refine KV (R_add rfl rfl (by omega)) rfl ?_
      refine KV (R_move rfl) rfl ?_
      refine K_nil ?_
      refine Q_nextD (k + 1, z + (d.to[k].length : Int)) ⟨hk2, by omega⟩ (by (try dsimp only); omega) ⟨rfl, rfl, trivial⟩ rfl rfl rfl
    ·
      have hk2 : k = d.to.length := by omega
      refine K_exit ?_
      refine Q_then_exit ?_
      refine Q_then_exit ?_
      refine Q_block_exit ?_
      refine Q_then ?_
      refine K_seq ?_
      refine K_seq ?_
      refine K_region ?_
      refine KV (R_move rfl) rfl ?_
      refine KV (R_cmp rfl rfl rfl) rfl ?_
      refine KV (R_move rfl) rfl ?_
      refine K_split ?_ ?_
      ·
        intro h38
        refine K_gno rfl rfl rfl rfl ?_
        refine K_gno rfl rfl rfl rfl ?_
        refine KV (R_pickT rfl rfl) rfl ?_
        refine K_nil ?_
        refine Q_then ?_
        refine K_ifT rfl ?_
        refine K_seq ?_
        refine K_region ?_
        refine KV (R_build z50 pl50 rfl rfl) rfl ?_
        refine K_store ty50 0 rfl rfl rfl rfl rfl rfl ?_
        refine KV (R_assign rfl) rfl ?_
        refine K_nil ?_
        refine Q_then ?_
        refine K_ret ?_
        refine Q_then_ret ?_
        refine results_gen (rs := [.cell 2 50, .tmp 3]) (vs := [_, _]) rfl ⟨⟨_, _, _, _, _, _, 0, rfl, rfl, ty50, (fun e => by cases e), rfl, rfl⟩, ⟨rfl, trivial⟩⟩ ?_
        exfalso; omega
      ·
        intro h38
        refine K_gyes rfl rfl ?_
        refine KV (R_move rfl) rfl ?_
        refine K_gyes rfl rfl ?_
        refine KV (R_cmp rfl rfl rfl) rfl ?_
        refine KV (R_pickF rfl rfl) rfl ?_
        refine K_nil ?_
        refine Q_then ?_
        refine K_if rfl (fun h41 => ?_) (fun h41 => ?_)
        ·
          refine K_seq ?_
          refine K_region ?_
          refine KV (R_build z50 pl50 rfl rfl) rfl ?_
          refine K_store ty50 0 rfl rfl rfl rfl rfl rfl ?_
          refine KV (R_assign rfl) rfl ?_
          refine K_nil ?_
          refine Q_then ?_
          refine K_ret ?_
          refine Q_then_ret ?_
          refine results_gen (rs := [.cell 2 50, .tmp 3]) (vs := [_, _]) rfl ⟨⟨_, _, _, _, _, _, 0, rfl, rfl, ty50, (fun e => by cases e), rfl, rfl⟩, ⟨rfl, trivial⟩⟩ ?_
          exfalso; omega
        ·
          refine K_skip ?_
          refine Q_then ?_
          refine K_seq ?_
          refine K_region ?_
          refine KV (R_fieldAddr 0 fd54_0 rfl) rfl ?_
          refine KV (R_loadH ty47 rfl (hA10) rfl (fun _ => rfl) rfl) rfl ?_
          refine K_call c45 rfl rfl (clone47_spec d.ranks _ Vb (hd.mono (hv1.trans hvb)).r (by omega)) ?_
          rintro cr V0 hv0 hcr
          obtain ⟨ca, cc, rfl⟩ := hcr.shape
          refine KV (R_move rfl) rfl ?_
          refine KV (R_build z50 pl50 rfl rfl) rfl ?_
          refine KA (A_alloc z50) rfl fun b9 => ?_
          refine K_store ty50 0 rfl rfl rfl rfl rfl rfl ?_
          refine K_nil ?_
          refine Q_then ?_
          refine K_seq ?_
          refine K_seq ?_
          refine K_region ?_
          refine KV (R_fieldAddr 0 fd54_0 rfl) rfl ?_
          refine KV (R_loadH ty47 rfl (hA10.mono hv0) rfl (fun _ => rfl) rfl) rfl ?_
          refine KV (R_len sl47 rfl) rfl ?_
          refine KV (R_move rfl) rfl ?_
          refine K_nil ?_
          refine Q_then ?_
          refine K_block ?_
          refine K_nilrow T85 3 ?_
          refine K_loopD (G := Nat × View × Option Addr × Nat × List Value) [10, 11, 12, 51, 52, 53, 54, 55, 56, 57, 58, 59, 60] (fun g => [(51, .int .i64 (g.1 : Int))]) (fun hl g => ((hl.set 0 (row (.slice g.2.2.1 (rulesTo d g.1).length g.2.2.2.1) T85 3 (rulesTo d g.1).length g.2.2.2.2)).set 1 (blk b9 (.cells #[.slice ca d.ranks.length cc, .int .i64 (d.acc.length : Int), .slice g.2.2.1 (rulesTo d g.1).length g.2.2.2.1, nilS] T50 (0, 0))))) (fun g => g.2.1) (fun g => (g.1 ≤ d.ranks.length) ∧ (VLe V0 g.2.1) ∧ (RepL (RepR g.2.1) 3 (rulesTo d g.1) g.2.2.2.2)) (fun g => d.ranks.length - g.1) (0, V0, none, 0, []) ⟨Nat.zero_le _, VLe.refl _, .nil⟩ ⟨rfl, trivial⟩ (by simp only [args0, Nat.reduceAdd, del, memN, beqN, Nat.reduceBEq, cond_true, cond_false]; rfl) rfl rfl ?_
          rintro ⟨s, V, ua, uc, cells⟩ ⟨hs, hV, hC⟩
          dsimp only at hs hV hC
          dsimp only [List.set, List.cons_append, List.nil_append]
          have hrtl := rulesTo_len hok hn5 hs
          refine K_seq ?_
          refine K_region ?_
          refine KV (R_cmp rfl rfl rfl) rfl ?_
          refine K_nil ?_
          refine Q_then ?_
          refine K_seq ?_
          refine K_if rfl (fun h52 => ?_) (fun h52 => ?_)
          ·
            have hs2 : s < d.ranks.length := by omega
            obtain ⟨rb, ro, hre, hrka⟩ := (hd.mono (hv1.trans (hvb.trans (hv0.trans hV)))).r.get hs2
            cases hre
            have hrk2 := (ranksErr_ok hok.rk).2 s hs2
            obtain ⟨nn, hnn⟩ : ∃ nn : Nat, d.ranks[s] = (nn : Int) := ⟨d.ranks[s].toNat, by omega⟩
            have hnt : d.ranks[s].toNat = nn := by omega
            rw [hnn] at hrka
            have hgd : d.ranks.getD s 0 = d.ranks[s] := by simp [List.getD, hs2]
            have htl5 : (tups d.acc.length nn).length ≤ 262144 := by rw [tups_len]; exact pow_le2 (by omega) (by omega)
            refine K_skip ?_
            refine Q_then ?_
            refine K_seq ?_
            refine K_block ?_
            refine K_seq ?_
            refine K_region ?_
            refine KV (R_move rfl) rfl ?_
            refine KV (R_indexN sl47 ty3 rfl rfl (by omega)) rfl ?_
            refine KV (R_loadH ty3 rfl (hrka) rfl (fun _ => rfl) rfl) rfl ?_
            refine KA (A_alloc z3) rfl fun b10 => ?_
            refine K_store ty3 0 rfl rfl rfl rfl rfl rfl ?_
            refine KV (R_assign rfl) rfl ?_
            refine K_nil ?_
            refine Q_then ?_
            refine K_seq ?_
            refine K_region ?_
            refine KA (A_alloc z3) rfl fun b12 => ?_
            refine K_store ty3 0 rfl rfl rfl rfl rfl rfl ?_
            refine K_nil ?_
            refine Q_then ?_
            refine KC_front 1 rfl ?_
            refine KC_pubF fun Vp hvp hb10 => ?_
            try dsimp only [List.eraseIdx]
            refine K_region ?_
            refine KV (R_move rfl) rfl ?_
            refine KV (R_move rfl) rfl ?_
            refine KV (R_makeFunc rfl rfl) rfl ?_
            refine KO_sel [2, 1, 0, 0] rfl ?_
            have hvis : VisitV Tryd.prog F64 [ptr b9, ptr b10, ptr b1, ptr b12] Vp (ext d.acc.length nn []) (fun pre V q => ∃ ua uc cs, q = [blk b9 (.cells #[.slice ca d.ranks.length cc, .int .i64 (d.acc.length : Int), .slice ua (rulesTo d s ++ pre.map (rlD d s)).length uc, nilS] T50 (0, 0)), row (.slice ua (rulesTo d s ++ pre.map (rlD d s)).length uc) T85 3 (rulesTo d s ++ pre.map (rlD d s)).length cs, blk b12 (.cells #[.int .i64 (pre.length : Int)] T3 (0, 0))] ∧ RepL (RepR V) 3 (rulesTo d s ++ pre.map (rlD d s)) cs) := by
              refine ⟨fun pre V V' q hle ⟨ua, uc, cs, g1, g2⟩ => ⟨ua, uc, cs, g1, g2.imp fun _ _ h => h.mono hle⟩, ?_⟩
              rintro G pre xs xa len cp p hlen hle ⟨ua2, uc2, cs2, rfl, hC2⟩ hpf hxs hcp
              rw [ext_nil] at hpf
              obtain ⟨hi9, hx9⟩ := prefix_at hpf
              have hch := hv0.trans (hV.trans (hvp.trans hle))
              have hbd := hpf.length_le
              rw [List.length_append] at hbd
              subst hlen
              have hat := (hok.at_ok (s := (s : Int)) (l := xs) ⟨by omega, by omega⟩ (by rw [← hx9, (tups_item (List.getElem_mem hi9)).1, Int.toNat_natCast, hgd]; omega) (by rw [← hx9]; exact (tups_item (List.getElem_mem hi9)).2)).2.2
              have hxl := (tups_item (List.getElem_mem hi9)).1
              rw [hx9] at hxl
              refine (ruleout_spec d hok s pre.length (rulesTo d s ++ pre.map (rlD d s)).length d.acc.length xs b9 b10 b1 b12 _ _ _ _ _ ua2 uc2 cs2 G (hd.mono (hv1.trans (hvb.trans hch))) (hA1.mono hch) ((At.of hb10).mono hle) hxs hs2 (by rw [hgd, hnt]; exact hi9) (by simp only [hgd, hnt]; exact hx9) (by rw [List.length_append, List.length_map]; omega) (by omega)).monoL ?_
              rintro v V' q hvq ⟨rfl, ua', uc', v', rfl, a', cp', rfl, hsv⟩
              have e1 : rulesTo d s ++ (pre ++ [xs]).map (rlD d s) = (rulesTo d s ++ pre.map (rlD d s)) ++ [rlD d s xs] := by rw [List.map_append, ← List.append_assoc]; rfl
              have e2 : ((rulesTo d s ++ pre.map (rlD d s)) ++ [rlD d s xs]).length = (rulesTo d s ++ pre.map (rlD d s)).length + 1 := by rw [List.length_append]; rfl
              have e3 : (((pre ++ [xs]).length : Nat) : Int) = (pre.length : Int) + 1 := by rw [List.length_append]; simp
              refine ⟨rfl, ?_⟩
              dsimp only
              rw [e1, e2, e3]
              refine ⟨ua', uc', _, rfl, (hC2.imp fun _ _ h => h.mono hvq).snoc ⟨a', cp', rfl, hsv, by simp only [rlD, i64ok]; omega, by simp only [rlD, i64ok]; omega, by simp only [rlD]; omega⟩ rfl⟩
            refine K_callO (first := []) [_, _, _] [_] (List.Perm.refl _) c48 rfl rfl rfl (tuplesV_spec nn d.acc.length F64 [ptr b9, ptr b10, ptr b1, ptr b12] _ Vp _ hvis c64 (by omega) (by omega) ⟨ua, uc, cells, by simp only [List.map_nil, List.append_nil]; rfl, by simp only [List.map_nil, List.append_nil]; exact hC.imp fun _ _ h => h.mono hvp⟩) ?_
            rintro _ V2 q hle2 ⟨ua2, uc2, cs2, rfl, hC2⟩
            dsimp only [List.cons_append, List.nil_append]
            have hus : rulesTo d s ++ (ext d.acc.length nn []).map (rlD d s) = rulesTo d (s + 1) := by rw [ext_nil, rulesTo_succ, hgd, hnt]
            rw [hus] at hC2 ⊢
            refine K_nil ?_
            refine KQ_sel [1, 0, 1] rfl ?_
            refine Q_block ?_
            refine Q_then ?_
            refine K_region ?_
            refine KV (R_add rfl rfl (by omega)) rfl ?_
            refine KV (R_move rfl) rfl ?_
            refine K_nil ?_
            refine Q_nextD (s + 1, V2, ua2, uc2, cs2) ⟨hs2, hV.trans (hvp.trans hle2), hC2⟩ (by (try dsimp only); omega) ⟨rfl, trivial⟩ rfl rfl rfl
          ·
            have hs2 : s = d.ranks.length := by omega
            subst hs2
            refine K_exit ?_
            refine Q_then_exit ?_
            refine Q_then_exit ?_
            refine Q_block_exit ?_
            refine Q_then ?_
            refine K_seq ?_
            refine K_seq ?_
            refine K_region ?_
            refine KV (R_fieldAddr 1 fd54_1 rfl) rfl ?_
            refine KV (R_loadH ty52 rfl (hA11.mono (hv0.trans hV)) rfl (fun _ => rfl) rfl) rfl ?_
            refine KV (R_len sl52 rfl) rfl ?_
            refine KV (R_move rfl) rfl ?_
            refine K_nil ?_
            refine Q_then ?_
            refine K_block ?_
            refine K_nilrow T3 1 ?_
            refine K_loopD (G := Nat × Value) [13, 14, 64, 65, 66, 67, 68, 69, 70, 71, 72, 73, 74, 75, 76] (fun g => [(64, .int .i64 (g.1 : Int))]) (fun hl g => ((hl.set 0 (row g.2 T3 1 (finTo d g.1).length (ints (finTo d g.1)))).set 2 (blk b9 (.cells #[.slice ca d.ranks.length cc, .int .i64 (d.acc.length : Int), .slice ua (rulesTo d d.ranks.length).length uc, g.2] T50 (0, 0))))) (fun g => V) (fun g => (g.1 ≤ d.acc.length) ∧ (∃ ad cp, g.2 = .slice ad (finTo d g.1).length cp)) (fun g => d.acc.length - g.1) (0, nilS) ⟨Nat.zero_le _, none, 0, rfl⟩ ⟨rfl, trivial⟩ (by simp only [args0, Nat.reduceAdd, del, memN, beqN, Nat.reduceBEq, cond_true, cond_false]; rfl) rfl rfl ?_
            rintro ⟨q, wf⟩ ⟨hq, hwf⟩
            dsimp only at hq hwf
            dsimp only [List.set, List.cons_append, List.nil_append]
            obtain ⟨fa, fcp, rfl⟩ := hwf
            have hfl : (finTo d q).length ≤ q := subL_len _ _
            refine K_seq ?_
            refine K_region ?_
            refine KV (R_cmp rfl rfl rfl) rfl ?_
            refine K_nil ?_
            refine Q_then ?_
            refine K_seq ?_
            refine K_if rfl (fun h65 => ?_) (fun h65 => ?_)
            ·
              have hq2 : q < d.acc.length := by omega
              obtain ⟨qb, qo, hqe, hqa⟩ := (hd.mono (hv1.trans (hvb.trans (hv0.trans hV)))).a.get hq2
              cases hqe
              have hgq : d.acc.getD q false = d.acc[q] := by simp [List.getD, hq2]
              refine K_skip ?_
              refine Q_then ?_
              refine K_seq ?_
              refine K_block ?_
              refine K_seq ?_
              refine K_region ?_
              refine KV (R_move rfl) rfl ?_
              refine KV (R_indexN sl52 ty4 rfl rfl (by omega)) rfl ?_
              refine KV (R_loadH ty4 rfl (hqa) rfl (fun _ => rfl) rfl) rfl ?_
              refine KV (R_assign rfl) rfl ?_
              refine KV (R_assign rfl) rfl ?_
              refine K_nil ?_
              refine Q_then ?_
              refine K_seq ?_
              refine K_region ?_
              refine KV (R_move rfl) rfl ?_
              refine K_nil ?_
              refine Q_then ?_
              refine K_ifB rfl (fun h69 => ?_) (fun h69 => ?_)
              ·
                have h69' : (fun s => d.acc.getD s false) q = true := by dsimp only; rw [hgq]; exact h69
                refine K_region ?_
                refine KV (R_fieldAddr 3 fd50_3 rfl) rfl ?_
                refine KV (R_loadO ty25 2 rfl rfl rfl rfl (fun _ => rfl) rfl) rfl ?_
                refine KV (R_move rfl) rfl ?_
                refine KA (A_buildSlice (vs := [.int .i64 (q : Int)]) sl25 ty3 z3 rfl rfl (by simp [Value.cells]) (by simp) rfl (by decide)) rfl fun b73 => ?_
                refine K_append1 0 ap25 rfl rfl rfl rfl rfl rfl ⟨by omega, by omega⟩ rfl fun a74 k74 hn74 => ?_
                refine KV (R_fieldAddr 3 fd50_3 rfl) rfl ?_
                refine K_store ty25 2 rfl rfl rfl rfl rfl rfl ?_
                refine K_nil ?_
                refine Q_block ?_
                refine Q_then ?_
                refine K_region ?_
                refine KV (R_add rfl rfl (by omega)) rfl ?_
                refine KV (R_move rfl) rfl ?_
                refine K_nil ?_
                refine Q_nextD (q + 1, .slice a74 ((finTo d q).length + 1) k74) ⟨hq2, _, _, by unfold finTo; rw [subL_yes h69', List.length_append]; rfl⟩ (by (try dsimp only); omega) ⟨rfl, trivial⟩ rfl (by dsimp only; unfold finTo; rw [subL_yes h69', List.length_append, ints_snoc]; rfl) rfl
              ·
                have h69' : (fun s => d.acc.getD s false) q = false := by dsimp only; rw [hgq]; exact h69
                refine K_skip ?_
                refine Q_block ?_
                refine Q_then ?_
                refine K_region ?_
                refine KV (R_add rfl rfl (by omega)) rfl ?_
                refine KV (R_move rfl) rfl ?_
                refine K_nil ?_
                refine Q_nextD (q + 1, .slice fa (finTo d q).length fcp) ⟨hq2, _, _, by unfold finTo; rw [subL_no h69']⟩ (by (try dsimp only); omega) ⟨rfl, trivial⟩ rfl (by dsimp only; unfold finTo; rw [subL_no h69']) rfl
            ·
              have hq2 : q = d.acc.length := by omega
              subst hq2
              refine K_exit ?_
              refine Q_then_exit ?_
              refine Q_then_exit ?_
              refine Q_block_exit ?_
              refine Q_then ?_
              refine K_seq ?_
              refine K_region ?_
              refine KV (R_loadO ty50 2 rfl rfl rfl rfl (fun e => by cases e) rfl) rfl ?_
              refine K_store ty50 3 rfl rfl rfl rfl rfl rfl ?_
              refine KV (R_assign rfl) rfl ?_
              refine K_nil ?_
              refine Q_then ?_
              refine K_ret ?_
              refine KQ_pubrow rfl fun HpA hpA hrowA => ?_
              refine KQ_pubrow rfl fun HpB hpB hrowB => ?_
              refine results_gen (rs := [.cell 2 50, .tmp 3]) (vs := [_, _]) rfl ⟨⟨_, _, _, _, _, _, 1, rfl, rfl, ty50, (fun e => by cases e), rfl, rfl⟩, ⟨rfl, trivial⟩⟩ ?_
              rw [if_neg (by omega), hd0]
              have hrtl := rulesTo_len hok hn5 (Nat.le_refl _)
              have hfl : (finTo d d.acc.length).length ≤ d.acc.length := subL_len _ _
              refine ⟨_, _, _, rfl, hcr.mono (hV.trans (hpA.trans hpB)), ⟨cells, hrowB.sl, hC.imp fun _ _ h => h.mono (hpA.trans hpB)⟩, ⟨hrowA.sl.mono hpB, ?_⟩, by simp only [i64ok, ntaM]; omega, ?_, ?_, ?_⟩
              · intro x hx
                obtain ⟨k, hk, rfl⟩ := List.mem_map.1 hx
                have := List.mem_range.1 (List.mem_filter.1 hk).1
                simp only [i64ok]; omega
              · show d.ranks.length ≤ _; omega
              · show (rulesTo d d.ranks.length).length ≤ _; omega
              · show (finTo d d.acc.length).length ≤ _; omega
end Go.Proofs.X

namespace Go.Proofs.X
open Go Pal Go.Proofs
attribute [local irreducible] Pal.KO Pal.KC Pal.KQ Pal.KD
theorem pl100 : placesOk Tryd.prog T100 [(0, 1), (1, 1), (2, 1)] := ⟨_, Tryd.underlying100, by kernel_rfl⟩
theorem rtonta_spec (d : Dt) (hok : DtOk d) (hn5 : d.acc.length ≤ 5) (hr8 : d.ranks.length ≤ 8) (w1 w2 w3 : Value) (H : View) (hd : RepDt H d w1 w2 w3) :
    Sat Tryd.prog F32 #[.agg #[w1, w2, w3]] H (fun r H' => ∃ v1 v2 v3, r = .agg #[v1, .int .i64 (ntaM d).states, v2, v3] ∧ RepAu H' (ntaM d) v1 v2 v3) := by
  obtain ⟨ua1, uc1x, rfl⟩ := hd.r.shape
  obtain ⟨ua2, uc2x, rfl⟩ := hd.a.shape
  obtain ⟨ua3, uc3x, rfl⟩ := hd.t.shape
  have htl := hok.tl
  refine enterO (n := 74) (args := [.agg #[.slice ua1 d.ranks.length uc1x, .slice ua2 d.acc.length uc2x, .slice ua3 d.to.length uc3x]]) Tryd.func32 rfl rfl rfl fun w0 => ?_
  refine K_seq ?_
  refine K_region ?_
  refine KA (A_box rfl) rfl fun b1 => ?_
  refine KA (A_alloc z42) rfl fun b2 => ?_
  refine K_nil ?_
  refine Q_then ?_
  refine K_seq ?_
  refine K_region ?_
  refine KV (R_fieldAddr 0 fd63_0 rfl) rfl ?_
  refine KV (R_loadO ty25 1 rfl rfl rfl rfl (fun _ => rfl) rfl) rfl ?_
  refine KV (R_fieldAddr 1 fd63_1 rfl) rfl ?_
  refine KV (R_loadO ty52 1 rfl rfl rfl rfl (fun _ => rfl) rfl) rfl ?_
  refine KV (R_len sl52 rfl) rfl ?_
  refine KV (R_build z42 pl42 rfl rfl) rfl ?_
  refine KA (A_alloc z42) rfl fun b3 => ?_
  refine K_store ty42 0 rfl rfl rfl rfl rfl rfl ?_
  refine K_nil ?_
  refine Q_then ?_
  refine K_seq ?_
  refine K_seq ?_
  refine K_region ?_
  refine KV (R_assign rfl) rfl ?_
  refine K_nil ?_
  refine Q_then ?_
  refine K_block ?_
  refine K_nilrow T3 1 ?_
  refine K_loopD (G := Nat × Value) [4, 14, 15, 16, 17, 18, 19, 20, 21, 22, 23, 24, 25, 26, 27, 28, 29, 30, 31] (fun g => [(4, .int .i64 (g.1 : Int))]) (fun hl g => ((hl.set 0 (row g.2 T3 1 (finTo d g.1).length (ints (finTo d g.1)))).set 1 (blk b3 (.cells #[.slice ua1 d.ranks.length uc1x, .int .i64 (d.acc.length : Int), nilS, g.2] T42 (0, 0))))) (fun g => H) (fun g => (g.1 ≤ d.acc.length) ∧ (∃ ad cp, g.2 = .slice ad (finTo d g.1).length cp)) (fun g => d.acc.length - g.1) (0, nilS) ⟨Nat.zero_le _, none, 0, rfl⟩ ⟨rfl, trivial⟩ (by simp only [args0, Nat.reduceAdd, del, memN, beqN, Nat.reduceBEq, cond_true, cond_false]; rfl) rfl rfl ?_
  rintro ⟨q, wf⟩ ⟨hq, hwf⟩
  dsimp only at hq hwf
  dsimp only [List.set, List.cons_append, List.nil_append]
  obtain ⟨fa, fcp, rfl⟩ := hwf
  have hfl : (finTo d q).length ≤ q := subL_len _ _
  refine K_seq ?_
  refine K_seq ?_
  refine K_region ?_
  refine KV (R_move rfl) rfl ?_
  refine KV (R_fieldAddr 1 fd63_1 rfl) rfl ?_
  refine KV (R_loadO ty52 3 rfl rfl rfl rfl (fun _ => rfl) rfl) rfl ?_
  refine KV (R_len sl52 rfl) rfl ?_
  refine KV (R_cmp rfl rfl rfl) rfl ?_
  refine K_nil ?_
  refine Q_then ?_
  refine K_if rfl (fun h18 => ?_) (fun h18 => ?_)
  ·
    have hq2 : q < d.acc.length := by omega
    obtain ⟨qb, qo, hqe, hqa⟩ := hd.a.get hq2
    cases hqe
    have hgq : d.acc.getD q false = d.acc[q] := by simp [List.getD, hq2]
    refine K_skip ?_
    refine Q_then ?_
    refine K_seq ?_
    refine K_block ?_
    refine K_seq ?_
    refine K_region ?_
    refine KV (R_fieldAddr 1 fd63_1 rfl) rfl ?_
    refine KV (R_loadO ty52 3 rfl rfl rfl rfl (fun _ => rfl) rfl) rfl ?_
    refine KV (R_move rfl) rfl ?_
    refine KV (R_indexN sl52 ty4 rfl rfl (by omega)) rfl ?_
    refine KV (R_loadH ty4 rfl (hqa) rfl (fun _ => rfl) rfl) rfl ?_
    refine K_nil ?_
    refine Q_then ?_
    refine K_ifB rfl (fun h25 => ?_) (fun h25 => ?_)
    ·
      have h25' : (fun s => d.acc.getD s false) q = true := by dsimp only; rw [hgq]; exact h25
      refine K_region ?_
      refine KV (R_fieldAddr 3 fd42_3 rfl) rfl ?_
      refine KV (R_loadO ty25 1 rfl rfl rfl rfl (fun _ => rfl) rfl) rfl ?_
      refine KV (R_move rfl) rfl ?_
      refine KA (A_buildSlice (vs := [.int .i64 (q : Int)]) sl25 ty3 z3 rfl rfl (by simp [Value.cells]) (by simp) rfl (by decide)) rfl fun b29 => ?_
      refine K_append1 0 ap25 rfl rfl rfl rfl rfl rfl ⟨by omega, by omega⟩ rfl fun a30 k30 hn30 => ?_
      refine KV (R_fieldAddr 3 fd42_3 rfl) rfl ?_
      refine K_store ty25 1 rfl rfl rfl rfl rfl rfl ?_
      refine K_nil ?_
      refine Q_block ?_
      refine Q_then ?_
      refine K_region ?_
      refine KV (R_move rfl) rfl ?_
      refine KV (R_add rfl rfl (by omega)) rfl ?_
      refine KV (R_assign rfl) rfl ?_
      refine K_nil ?_
      refine Q_nextD (q + 1, .slice a30 ((finTo d q).length + 1) k30) ⟨hq2, _, _, by unfold finTo; rw [subL_yes h25', List.length_append]; rfl⟩ (by (try dsimp only); omega) ⟨rfl, trivial⟩ rfl (by dsimp only; unfold finTo; rw [subL_yes h25', List.length_append, ints_snoc]; rfl) rfl
    ·
      have h25' : (fun s => d.acc.getD s false) q = false := by dsimp only; rw [hgq]; exact h25
      refine K_skip ?_
      refine Q_block ?_
      refine Q_then ?_
      refine K_region ?_
      refine KV (R_move rfl) rfl ?_
      refine KV (R_add rfl rfl (by omega)) rfl ?_
      refine KV (R_assign rfl) rfl ?_
      refine K_nil ?_
      refine Q_nextD (q + 1, .slice fa (finTo d q).length fcp) ⟨hq2, _, _, by unfold finTo; rw [subL_no h25']⟩ (by (try dsimp only); omega) ⟨rfl, trivial⟩ rfl (by dsimp only; unfold finTo; rw [subL_no h25']) rfl
  ·
    have hq2 : q = d.acc.length := by omega
    subst hq2
    refine K_exit ?_
    refine Q_then_exit ?_
    refine Q_then_exit ?_
    refine Q_block_exit ?_
    refine Q_then ?_
    refine K_seq ?_
    refine K_seq ?_
    refine K_region ?_
    refine KV (R_assign rfl) rfl ?_
    refine K_nil ?_
    refine Q_then ?_
    refine K_block ?_
    refine K_nilrow T100 3 ?_
    refine K_loopD (G := Nat × View × Option Addr × Nat × List Value) [5, 6, 7, 32, 33, 34, 35, 36, 37, 38, 39, 40, 41, 42, 43, 44, 45, 46, 47, 48, 49, 50, 51, 52, 53, 54, 55, 56, 57, 58, 59, 60, 61, 62, 63, 64, 65, 66, 67, 68, 69, 70, 71, 72] (fun g => [(5, .int .i64 (g.1 : Int))]) (fun hl g => ((hl.set 0 (row (.slice g.2.2.1 (rulesTo d g.1).length g.2.2.2.1) T100 3 (rulesTo d g.1).length g.2.2.2.2)).set 2 (blk b3 (.cells #[.slice ua1 d.ranks.length uc1x, .int .i64 (d.acc.length : Int), .slice g.2.2.1 (rulesTo d g.1).length g.2.2.2.1, .slice fa (finTo d d.acc.length).length fcp] T42 (0, 0))))) (fun g => g.2.1) (fun g => (g.1 ≤ d.ranks.length) ∧ (VLe H g.2.1) ∧ (RepL (RepR g.2.1) 3 (rulesTo d g.1) g.2.2.2.2)) (fun g => d.ranks.length - g.1) (0, H, none, 0, []) ⟨Nat.zero_le _, VLe.refl _, .nil⟩ ⟨rfl, trivial⟩ (by simp only [args0, Nat.reduceAdd, del, memN, beqN, Nat.reduceBEq, cond_true, cond_false]; rfl) rfl rfl ?_
    rintro ⟨s, V, ua, uc, cells⟩ ⟨hs, hV, hC⟩
    dsimp only at hs hV hC
    dsimp only [List.set, List.cons_append, List.nil_append]
    have hrtl := rulesTo_len hok hn5 hs
    refine K_seq ?_
    refine K_seq ?_
    refine K_region ?_
    refine KV (R_move rfl) rfl ?_
    refine KV (R_fieldAddr 0 fd63_0 rfl) rfl ?_
    refine KV (R_loadO ty25 4 rfl rfl rfl rfl (fun _ => rfl) rfl) rfl ?_
    refine KV (R_len sl25 rfl) rfl ?_
    refine KV (R_cmp rfl rfl rfl) rfl ?_
    refine K_nil ?_
    refine Q_then ?_
    refine K_if rfl (fun h36 => ?_) (fun h36 => ?_)
    ·
      have hs2 : s < d.ranks.length := by omega
      obtain ⟨rb, ro, hre, hrka⟩ := (hd.mono hV).r.get hs2
      cases hre
      have hrk2 := (ranksErr_ok hok.rk).2 s hs2
      obtain ⟨nn, hnn⟩ : ∃ nn : Nat, d.ranks[s] = (nn : Int) := ⟨d.ranks[s].toNat, by omega⟩
      have hnt : d.ranks[s].toNat = nn := by omega
      rw [hnn] at hrka
      have hgd : d.ranks.getD s 0 = d.ranks[s] := by simp [List.getD, hs2]
      have htl5 : (tups d.acc.length nn).length ≤ 262144 := by rw [tups_len]; exact pow_le2 (by omega) (by omega)
      refine K_skip ?_
      refine Q_then ?_
      refine K_seq ?_
      refine K_block ?_
      refine K_seq ?_
      refine K_regionD (fin := false) (R := [0, 1, 2, 3, 4, 5, 6, 7, 8, 9]) (by kernel_rfl) mixed (.cons_cons _ (.cons_cons _ (.cons_cons _ (.cons_cons _ (.cons_cons _ (List.nil_sublist _)))))) ?_
      refine D_val rfl rfl rfl (R_fieldAddr 0 fd63_0 rfl) ?_
      refine D_val rfl rfl rfl (R_loadO ty25 4 rfl rfl rfl rfl (fun _ => rfl) rfl) ?_
      refine D_val rfl rfl rfl (R_move rfl) ?_
      refine D_val rfl rfl rfl (R_indexN sl25 ty3 rfl rfl (by omega)) ?_
      refine D_val rfl rfl rfl (R_loadH ty3 rfl (hrka) rfl (fun _ => rfl) rfl) ?_
      refine D_val rfl rfl rfl (R_fieldAddr 1 fd63_1 rfl) ?_
      refine D_val rfl rfl rfl (R_loadO ty52 4 rfl rfl rfl rfl (fun _ => rfl) rfl) ?_
      refine D_val rfl rfl rfl (R_len sl52 rfl) ?_
      refine D_call rfl rfl c56 rfl ⟨⟨0, rfl⟩, ⟨1, rfl⟩, ⟨2, rfl⟩, ⟨3, rfl⟩, ⟨4, rfl⟩, trivial⟩ (rtuples_spec nn d.acc.length (by omega) (by omega) V) ?_
      rintro tv Vt hvt hts
      obtain ⟨ta, tcp, rfl⟩ := hts.shape
      refine D_val rfl rfl rfl (R_assign rfl) ?_
      refine D_done ?_
      refine Q_then ?_
      refine K_seq ?_
      refine K_region ?_
      refine KV (R_assign rfl) rfl ?_
      refine K_nil ?_
      refine Q_then ?_
      refine K_block ?_
      refine K_loopD (G := Nat × Option Addr × Nat × List Value) [7, 48, 49, 50, 51, 52, 53, 54, 55, 56, 57, 58, 59, 60, 61, 62, 63, 64, 65, 66, 67, 68, 69, 70, 71, 72] (fun g => [(7, .int .i64 (g.1 : Int))]) (fun hl g => ((hl.set 0 (row (.slice g.2.1 (rulesTo d s ++ ((tups d.acc.length nn).take g.1).map (rlD d s)).length g.2.2.1) T100 3 (rulesTo d s ++ ((tups d.acc.length nn).take g.1).map (rlD d s)).length g.2.2.2)).set 2 (blk b3 (.cells #[.slice (some ⟨rb, ro, none⟩) d.ranks.length uc1x, .int .i64 (d.acc.length : Int), .slice g.2.1 (rulesTo d s ++ ((tups d.acc.length nn).take g.1).map (rlD d s)).length g.2.2.1, .slice fa (finTo d d.acc.length).length fcp] T42 (0, 0))))) (fun g => Vt) (fun g => (g.1 ≤ (tups d.acc.length nn).length) ∧ (RepL (RepR Vt) 3 (rulesTo d s ++ ((tups d.acc.length nn).take g.1).map (rlD d s)) g.2.2.2)) (fun g => (tups d.acc.length nn).length - g.1) (0, ua, uc, cells) ⟨Nat.zero_le _, by simp only [List.take_zero, List.map_nil, List.append_nil]; exact hC.imp fun _ _ h => h.mono hvt⟩ ⟨rfl, trivial⟩ (by simp only [args0, Nat.reduceAdd, del, memN, beqN, Nat.reduceBEq, cond_true, cond_false]; rfl) (by simp only [List.take_zero, List.map_nil, List.append_nil]; rfl) rfl ?_
      rintro ⟨i, ua4, uc4, cells4⟩ ⟨hi, hC2⟩
      dsimp only at hi hC2
      dsimp only [List.set, List.cons_append, List.nil_append]
      refine K_seq ?_
      refine K_seq ?_
      refine K_region ?_
      refine KV (R_move rfl) rfl ?_
      refine KV (R_move rfl) rfl ?_
      refine KV (R_len sl44 rfl) rfl ?_
      refine KV (R_cmp rfl rfl rfl) rfl ?_
      refine K_nil ?_
      refine Q_then ?_
      refine K_if rfl (fun h51 => ?_) (fun h51 => ?_)
      ·
        have hi2 : i < (tups d.acc.length nn).length := by omega
        obtain ⟨tb, to_, xa, xcp, hte0, htt, hxs⟩ := hts.get hi2
        cases hte0
        obtain ⟨g1, g2, hat⟩ := at_place hok (s := s) (i := i) (xs := (tups d.acc.length nn)[i]) hs2 (by rw [hgd, hnt]; exact hi2) (by simp only [hgd, hnt])
        obtain ⟨db, do_, ea, ecp, hde, htx, hes⟩ := (hd.mono (hV.trans hvt)).t.get g1
        cases hde
        obtain ⟨fb, fo, hfe, hte⟩ := hes.get g2
        cases hfe
        have hxl := (tups_item (List.getElem_mem hi2)).1
        have hat2 := (hok.at_ok (s := (s : Int)) (l := (tups d.acc.length nn)[i]) ⟨by omega, by omega⟩ (by rw [hxl, Int.toNat_natCast, hgd]; omega) (tups_item (List.getElem_mem hi2)).2).2.2
        have hul : (rulesTo d s ++ ((tups d.acc.length nn).take i).map (rlD d s)).length ≤ 1048576 := by rw [List.length_append, List.length_map, List.length_take]; omega
        refine K_skip ?_
        refine Q_then ?_
        refine K_seq ?_
        refine K_block ?_
        refine K_regionD (fin := true) (R := [0, 1, 2, 3, 4, 5, 6, 7, 8, 9, 10, 11, 12, 13, 14, 15, 16, 17, 18, 19]) (by kernel_rfl) mixed (.cons _ (.cons _ (.cons_cons _ (.cons_cons _ (.cons_cons _ (List.nil_sublist _)))))) ?_
        refine D_val rfl rfl rfl (R_fieldAddr 2 fd42_2 rfl) ?_
        refine D_val rfl rfl rfl (R_loadO ty40 0 rfl rfl rfl rfl (fun _ => rfl) rfl) ?_
        refine D_val rfl rfl rfl (R_move rfl) ?_
        refine D_val rfl rfl rfl (R_move rfl) ?_
        refine D_val rfl rfl rfl (R_move rfl) ?_
        refine D_val rfl rfl rfl (R_indexN sl44 ty25 rfl rfl (by omega)) ?_
        refine D_val rfl rfl rfl (R_loadH ty25 rfl (htt) rfl (fun _ => rfl) rfl) ?_
        refine D_val rfl rfl rfl (R_fieldAddr 2 fd63_2 rfl) ?_
        refine D_val rfl rfl rfl (R_loadO ty44 2 rfl rfl rfl rfl (fun _ => rfl) rfl) ?_
        refine D_val rfl rfl rfl (R_move rfl) ?_
        refine D_val rfl rfl rfl (R_indexN sl44 ty25 rfl rfl (by omega)) ?_
        refine D_val rfl rfl rfl (R_loadH ty25 rfl (htx) rfl (fun _ => rfl) rfl) ?_
        refine D_val rfl rfl rfl (R_move rfl) ?_
        refine D_val rfl rfl rfl (R_indexN sl25 ty3 rfl rfl (by omega)) ?_
        refine D_val rfl rfl rfl (R_loadH ty3 rfl (hte) rfl (fun _ => rfl) rfl) ?_
        refine D_val rfl rfl rfl (R_build z100 pl100 rfl rfl) ?_
        refine D_alloc rfl rfl rfl (A_buildSlice (vs := [.agg #[.int .i64 (s : Int), .slice xa (tups d.acc.length nn)[i].length xcp, .int .i64 d.to[s][i]]]) sl40 ty100 z100 rfl rfl (by simp [Value.cells]) (by simp) rfl (by decide)) fun b70 => ?_
        refine D_append1 0 ap40 rfl rfl rfl rfl rfl rfl ⟨⟨1, rfl⟩, ⟨2, rfl⟩, ⟨3, rfl⟩, trivial⟩ rfl rfl ⟨by omega, by omega⟩ fun a71 k71 hn71 => ?_
        refine D_val rfl rfl rfl (R_fieldAddr 2 fd42_2 rfl) ?_
        refine D_lastStore ty40 2 rfl rfl rfl rfl rfl rfl rfl rfl ?_
        refine Q_block ?_
        refine Q_then ?_
        refine K_region ?_
        refine KV (R_move rfl) rfl ?_
        refine KV (R_add rfl rfl (by omega)) rfl ?_
        refine KV (R_assign rfl) rfl ?_
        refine K_nil ?_
        have e1 : rulesTo d s ++ ((tups d.acc.length nn).take (i + 1)).map (rlD d s) = (rulesTo d s ++ ((tups d.acc.length nn).take i).map (rlD d s)) ++ [rlD d s (tups d.acc.length nn)[i]] := by rw [List.take_succ_eq_append_getElem hi2, List.map_append, ← List.append_assoc]; rfl
        have e2 : ((rulesTo d s ++ ((tups d.acc.length nn).take i).map (rlD d s)) ++ [rlD d s (tups d.acc.length nn)[i]]).length = (rulesTo d s ++ ((tups d.acc.length nn).take i).map (rlD d s)).length + 1 := by rw [List.length_append]; rfl
        refine Q_nextD (i + 1, a71, k71, cells4 ++ [.int .i64 (s : Int), .slice xa (tups d.acc.length nn)[i].length xcp, .int .i64 d.to[s][i]]) ⟨hi2, by rw [e1]; exact hC2.snoc ⟨xa, xcp, by rw [← hat]; rfl, hxs, by simp only [rlD, i64ok]; omega, by simp only [rlD, i64ok]; omega, by simp only [rlD]; omega⟩ rfl⟩ (by (try dsimp only); omega) ⟨rfl, trivial⟩ rfl (by dsimp only; rw [e1, e2]; rfl) rfl
      ·
        have hi3 : i = (tups d.acc.length nn).length := by omega
        refine K_exit ?_
        refine Q_then_exit ?_
        refine Q_then_exit ?_
        refine Q_block_exit ?_
        refine Q_block ?_
        refine Q_then ?_
        refine K_region ?_
        refine KV (R_move rfl) rfl ?_
        refine KV (R_add rfl rfl (by omega)) rfl ?_
        refine KV (R_assign rfl) rfl ?_
        refine K_nil ?_
        have hus : rulesTo d s ++ ((tups d.acc.length nn).take i).map (rlD d s) = rulesTo d (s + 1) := by rw [hi3, List.take_length, rulesTo_succ, hgd, hnt]
        rw [hus] at hC2 ⊢
        refine Q_nextD (s + 1, Vt, ua4, uc4, cells4) ⟨hs2, hV.trans hvt, hC2⟩ (by (try dsimp only); omega) ⟨rfl, trivial⟩ rfl rfl rfl
    ·
      have hs2 : s = d.ranks.length := by omega
      subst hs2
      refine K_exit ?_
      refine Q_then_exit ?_
      refine Q_then_exit ?_
      refine Q_block_exit ?_
      refine Q_then ?_
      refine K_seq ?_
      refine K_region ?_
      refine KV (R_loadO ty42 2 rfl rfl rfl rfl (fun e => by cases e) rfl) rfl ?_
      refine K_store ty42 3 rfl rfl rfl rfl rfl rfl ?_
      refine K_nil ?_
      refine Q_then ?_
      refine K_ret ?_
      refine KQ_front 1 rfl ?_
      refine KQ_pubrow rfl fun HpA hpA hrowA => ?_
      refine KQ_pubrow rfl fun HpB hpB hrowB => ?_
      refine results_gen (rs := [.cell 2 42]) (vs := [_]) rfl ⟨⟨_, _, _, _, _, _, 1, rfl, rfl, ty42, (fun e => by cases e), rfl, rfl⟩, trivial⟩ ?_
      have hrtl := rulesTo_len hok hn5 (Nat.le_refl _)
      have hfl : (finTo d d.acc.length).length ≤ d.acc.length := subL_len _ _
      refine ⟨_, _, _, rfl, hd.r.mono (hV.trans (hpA.trans hpB)), ⟨cells, hrowB.sl, hC.imp fun _ _ h => h.mono (hpA.trans hpB)⟩, ⟨hrowA.sl.mono hpB, ?_⟩, by simp only [i64ok, ntaM]; omega, ?_, ?_, ?_⟩
      · intro x hx
        obtain ⟨k, hk, rfl⟩ := List.mem_map.1 hx
        have := List.mem_range.1 (List.mem_filter.1 hk).1
        simp only [i64ok]; omega
      · show d.ranks.length ≤ _; omega
      · show (rulesTo d d.ranks.length).length ≤ _; omega
      · show (finTo d d.acc.length).length ≤ _; omega
end Go.Proofs.X

namespace Go.Proofs.X
open Go Pal Go.Proofs
attribute [local irreducible] Pal.KO Pal.KC Pal.KQ Pal.KD
theorem c27 : callable Tryd.prog F27 = true := by kernel_rfl
theorem c30 : callable Tryd.prog F30 = true := by kernel_rfl
theorem c31 : callable Tryd.prog F31 = true := by kernel_rfl
theorem c32 : callable Tryd.prog F32 = true := by kernel_rfl
theorem c33 : callable Tryd.prog F33 = true := by kernel_rfl
theorem tonta_law (d : Dt) (v1 v2 v3 : Value) (H : View) (hT : Tab H) (hd : RepDt H d v1 v2 v3) (hb : d.ranks.length ≤ 1048576 ∧ d.acc.length ≤ 1048576 ∧ d.to.length ≤ 1048576 ∧ ∀ x ∈ d.to, x.length ≤ 1048576) :
    Sat Tryd.prog F5 #[.agg #[v1, v2, v3]] H (fun v _ => v = .bool true) := by
  obtain ⟨ua1, uc1x, rfl⟩ := hd.r.shape
  obtain ⟨ua2, uc2x, rfl⟩ := hd.a.shape
  obtain ⟨ua3, uc3x, rfl⟩ := hd.t.shape
  refine enterO (n := 74) (args := [.agg #[.slice ua1 d.ranks.length uc1x, .slice ua2 d.acc.length uc2x, .slice ua3 d.to.length uc3x]]) Tryd.func5 rfl rfl rfl fun w0 => ?_
  refine K_seq ?_
  refine K_region ?_
  refine KA (A_box rfl) rfl fun b1 => ?_
  refine KV (R_assign rfl) rfl ?_
  refine K_nil ?_
  refine Q_then ?_
  refine K_seq ?_
  refine K_seq ?_
  refine K_region ?_
  refine K_call c7 rfl rfl (known_spec H hT) ?_
  rintro _ V1 hv1 rfl
  refine KV (R_not rfl) rfl ?_
  refine KV (R_move rfl) rfl ?_
  refine K_splitB ?_ ?_
  ·
    intro h12
    cases h12
  ·
    intro h12
    refine K_gyes rfl rfl ?_
    refine KV (R_loadO ty63 0 rfl rfl rfl rfl (fun e => by cases e) rfl) rfl ?_
    refine K_gyes rfl rfl ?_
    refine K_call c26 rfl rfl (small_spec d _ _ _ V1 (hd.mono hv1) hb) ?_
    rintro _ V2 hv2 ⟨b14, rfl, hsml⟩
    refine K_gyes rfl rfl ?_
    refine KV (R_not rfl) rfl ?_
    refine KV (R_pickF rfl rfl) rfl ?_
    refine K_nil ?_
    refine Q_then ?_
    refine K_ifB rfl (fun h16 => ?_) (fun h16 => ?_)
    ·
      refine K_seq ?_
      refine K_region ?_
      refine K_call c7 rfl rfl (known_spec _ (hT.mono (by first | exact hv1 | exact hv1.trans hv2))) ?_
      rintro _ V99 hv99 rfl
      refine KV (R_assign rfl) rfl ?_
      refine K_nil ?_
      refine Q_then ?_
      refine K_ret ?_
      refine Q_then_ret ?_
      refine results_gen (rs := [.tmp 2]) (vs := [_]) rfl ⟨rfl, trivial⟩ ?_
      first
      | rfl
      | simp [tupV]
    ·
      have hsmd := hsml (by simpa using h16)
      refine K_skip ?_
      refine Q_then ?_
      refine K_seq ?_
      by_cases he : dtErr d = 0
      ·
        have hok := DtOk.of he
        have hns := ntaM_small hok hsmd.2.1 hsmd.1
        have hts := trim_small hok hsmd.2.1 hsmd.1
        refine K_region ?_
        refine KV (R_loadO ty63 0 rfl rfl rfl rfl (fun e => by cases e) rfl) rfl ?_
        refine K_call c28 rfl rfl (l33from_spec d _ _ _ V2 (hd.mono (hv1.trans hv2))) ?_
        rintro _ V3 hv3 rfl
        have hv03 := hv1.trans (hv2.trans hv3)
        refine K_call c27 rfl rfl (tonta_spec d hb (fun _ => ⟨hsmd.2.1, hsmd.1⟩) _ _ _ V3 (hd.mono hv03)) ?_
        rintro _ V4 hv4 ⟨e1, e2, e3, rfl, hX⟩
        first
        | rw [if_pos hne] at hX ⊢
        | rw [if_neg (fun h => h he)] at hX ⊢
        try dsimp only at hX ⊢
        have hd4 := hd.mono (hv03.trans hv4)
        obtain ⟨hXa, hXb, hXr⟩ := hX.r.shape
        obtain ⟨hXc, hXd, hXf⟩ := hX.f.shape
        obtain ⟨hXe, hXg, hXu⟩ := hX.ushape
        subst hXr hXf hXu
        refine KV (R_move rfl) rfl ?_
        refine KV (R_extract rfl rfl) rfl ?_
        refine KV (R_extract rfl rfl) rfl ?_
        refine KA (A_alloc z50) rfl fun b3 => ?_
        refine K_store ty50 0 rfl rfl rfl rfl rfl rfl ?_
        refine KV (R_assign rfl) rfl ?_
        refine K_nil ?_
        refine Q_then ?_
        refine K_seq ?_
        refine K_seq ?_
        refine K_region ?_
        refine KV (R_loadO ty63 1 rfl rfl rfl rfl (fun e => by cases e) rfl) rfl ?_
        refine K_call c29 rfl rfl (rdcheck_spec d _ _ _ V4 hd4 hb) ?_
        rintro _ V5 hv5 rfl
        have hX5 := hX.mono hv5
        have hd5 := hd4.mono hv5
        refine KV (R_assign rfl) rfl ?_
        refine K_nil ?_
        refine Q_then ?_
        refine K_seq ?_
        refine K_region ?_
        refine KV (R_move rfl) rfl ?_
        refine KV (R_cmp rfl rfl rfl) rfl ?_
        refine K_nil ?_
        refine Q_then ?_
        refine K_if rfl (fun h27 => ?_) (fun h27 => ?_)
        ·
          exact absurd he h27
        ·
          refine K_skip ?_
          refine Q_then ?_
          refine K_seq ?_
          refine K_seq ?_
          refine K_regionD (fin := false) (R := [0, 1, 2, 3, 5, 4, 6, 7, 8, 9]) (by kernel_rfl) mixed (.cons_cons _ (.cons_cons _ (List.nil_sublist _))) ?_
          refine D_val rfl rfl rfl (R_move rfl) ?_
          refine D_val rfl rfl rfl (R_cmp rfl rfl rfl) ?_
          refine D_val rfl rfl rfl (R_move rfl) ?_
          refine D_split ?_ ?_
          ·
            intro h44
            exact absurd he h44
          ·
            intro h44
            refine D_val rfl rfl rfl (R_loadO ty50 0 rfl rfl rfl rfl (fun e => by cases e) rfl) ?_
            refine D_val rfl rfl rfl (R_loadO ty63 1 rfl rfl rfl rfl (fun e => by cases e) rfl) ?_
            refine D_call rfl rfl c31 rfl ⟨⟨0, rfl⟩, ⟨1, rfl⟩, trivial⟩ (of_spec3 (ntaM d) _ _ _ V5 hX5 hns.1) ?_
            rintro _ V6 hv6 ⟨f1, f2, f3, rfl, hY⟩
            refine D_call rfl rfl c32 rfl ⟨⟨0, rfl⟩, ⟨1, rfl⟩, trivial⟩ (rtonta_spec d hok hsmd.2.1 hsmd.1 _ _ _ V6 (hd5.mono hv6)) ?_
            rintro _ V7 hv7 ⟨g1, g2, g3, rfl, hZ⟩
            refine D_call rfl rfl c30 rfl ⟨⟨0, rfl⟩, ⟨1, rfl⟩, trivial⟩ (rsame_au_spec (ntaM d) (ntaM d) _ _ _ _ _ _ V7 (hY.mono hv7) hZ hns.1 hns.2.1 hns.2.2.1 hns.1 hns.2.1 hns.2.2.1 hns.2.2.2 hns.2.2.2) ?_
            rintro _ V8 hv8 rfl
            refine D_val rfl rfl rfl (R_not rfl) ?_
            refine D_val rfl rfl rfl (R_pickF rfl rfl) ?_
            refine D_done ?_
            refine Q_then ?_
            refine K_ifB rfl (fun h51 => ?_) (fun h51 => ?_)
            ·
              rw [sameM_self] at h51; cases h51
            ·
              refine K_skip ?_
              refine Q_then ?_
              refine K_seq ?_
              refine K_region ?_
              refine KV (R_loadO ty50 0 rfl rfl rfl rfl (fun e => by cases e) rfl) rfl ?_
              refine K_call c18 rfl rfl (fromNTA_spec (ntaM d) 64 _ _ _ V8 (hX5.mono (hv6.trans (hv7.trans hv8)))) ?_
              rintro _ V9 hv9 ⟨d1, d2, d3, rfl, hF⟩
              obtain ⟨st, hc1, hc2⟩ := cons_trim hok hsmd.2.1 hsmd.1
              rw [hc1] at hF ⊢
              dsimp only at hF ⊢
              rw [hc2] at hF
              obtain ⟨xa1, xc1x, rfl⟩ := hF.r.shape
              obtain ⟨xa2, xc2x, rfl⟩ := hF.a.shape
              obtain ⟨xa3, xc3x, rfl⟩ := hF.t.shape
              refine KV (R_move rfl) rfl ?_
              refine KV (R_extract rfl rfl) rfl ?_
              refine KV (R_extract rfl rfl) rfl ?_
              refine KA (A_alloc z54) rfl fun b6 => ?_
              refine K_store ty54 0 rfl rfl rfl rfl rfl rfl ?_
              refine KV (R_assign rfl) rfl ?_
              refine K_nil ?_
              refine Q_then ?_
              refine K_seq ?_
              refine K_region ?_
              refine KV (R_loadO ty63 2 rfl rfl rfl rfl (fun e => by cases e) rfl) rfl ?_
              refine K_call c28 rfl rfl (l33from_spec d _ _ _ V9 (hd5.mono (hv6.trans (hv7.trans (hv8.trans hv9))))) ?_
              rintro _ V10 hv10 rfl
              refine K_call c33 rfl rfl (trim_spec d hb (by omega) _ _ _ V10 (hd5.mono (hv6.trans (hv7.trans (hv8.trans (hv9.trans hv10)))))) ?_
              rintro _ V11 hv11 ⟨t1, t2, t3, rfl, hG⟩
              rw [if_neg (fun h => h he)] at hG
              rw [he]
              obtain ⟨ya1, yc1x, rfl⟩ := hG.r.shape
              obtain ⟨ya2, yc2x, rfl⟩ := hG.a.shape
              obtain ⟨ya3, yc3x, rfl⟩ := hG.t.shape
              refine KV (R_move rfl) rfl ?_
              refine KV (R_extract rfl rfl) rfl ?_
              refine KV (R_extract rfl rfl) rfl ?_
              refine KA (A_alloc z54) rfl fun b8 => ?_
              refine K_store ty54 0 rfl rfl rfl rfl rfl rfl ?_
              refine KV (R_assign rfl) rfl ?_
              refine K_nil ?_
              refine Q_then ?_
              refine K_seq ?_
              refine K_region ?_
              refine KV (R_move rfl) rfl ?_
              refine KV (R_cmp rfl rfl rfl) rfl ?_
              refine KV (R_move rfl) rfl ?_
              refine K_split ?_ ?_
              ·
                intro h65
                refine K_gyes rfl rfl ?_
                refine KV (R_move rfl) rfl ?_
                refine K_gyes rfl rfl ?_
                refine KV (R_cmp rfl rfl rfl) rfl ?_
                refine KV (R_pickT rfl rfl) rfl ?_
                refine KV (R_move rfl) rfl ?_
                refine K_split ?_ ?_
                ·
                  intro h69
                  refine K_gyes rfl rfl ?_
                  refine KV (R_loadO ty54 1 rfl rfl rfl rfl (fun e => by cases e) rfl) rfl ?_
                  refine K_gyes rfl rfl ?_
                  refine KV (R_loadO ty54 0 rfl rfl rfl rfl (fun e => by cases e) rfl) rfl ?_
                  refine K_gyes rfl rfl ?_
                  refine K_call c19 rfl rfl (dteq_spec (trimD d) (trimD d) _ _ _ _ _ _ V11 (hF.mono (hv10.trans hv11)) hG hts hts) ?_
                  rintro _ V12 hv12 rfl
                  refine KV (R_pickT rfl rfl) rfl ?_
                  refine KV (R_assign rfl) rfl ?_
                  refine K_nil ?_
                  refine Q_then ?_
                  refine K_ret ?_
                  refine results_gen (rs := [.tmp 2]) (vs := [_]) rfl ⟨rfl, trivial⟩ ?_
                  first
                  | rfl
                  | simp [tupV]
                ·
                  intro h69
                  exact absurd rfl h69
              ·
                intro h65
                exact absurd rfl h65
      ·
        have hne : dtErr d ≠ 0 := he
        refine K_region ?_
        refine KV (R_loadO ty63 0 rfl rfl rfl rfl (fun e => by cases e) rfl) rfl ?_
        refine K_call c28 rfl rfl (l33from_spec d _ _ _ V2 (hd.mono (hv1.trans hv2))) ?_
        rintro _ V3 hv3 rfl
        have hv03 := hv1.trans (hv2.trans hv3)
        refine K_call c27 rfl rfl (tonta_spec d hb (fun _ => ⟨hsmd.2.1, hsmd.1⟩) _ _ _ V3 (hd.mono hv03)) ?_
        rintro _ V4 hv4 ⟨e1, e2, e3, rfl, hX⟩
        first
        | rw [if_pos hne] at hX ⊢
        | rw [if_neg (fun h => h he)] at hX ⊢
        try dsimp only at hX ⊢
        have hd4 := hd.mono (hv03.trans hv4)
        obtain ⟨hXa, hXb, hXr⟩ := hX.r.shape
        obtain ⟨hXc, hXd, hXf⟩ := hX.f.shape
        obtain ⟨hXe, hXg, hXu⟩ := hX.ushape
        subst hXr hXf hXu
        refine KV (R_move rfl) rfl ?_
        refine KV (R_extract rfl rfl) rfl ?_
        refine KV (R_extract rfl rfl) rfl ?_
        refine KA (A_alloc z50) rfl fun b3 => ?_
        refine K_store ty50 0 rfl rfl rfl rfl rfl rfl ?_
        refine KV (R_assign rfl) rfl ?_
        refine K_nil ?_
        refine Q_then ?_
        refine K_seq ?_
        refine K_seq ?_
        refine K_region ?_
        refine KV (R_loadO ty63 1 rfl rfl rfl rfl (fun e => by cases e) rfl) rfl ?_
        refine K_call c29 rfl rfl (rdcheck_spec d _ _ _ V4 hd4 hb) ?_
        rintro _ V5 hv5 rfl
        have hX5 := hX.mono hv5
        have hd5 := hd4.mono hv5
        refine KV (R_assign rfl) rfl ?_
        refine K_nil ?_
        refine Q_then ?_
        refine K_seq ?_
        refine K_region ?_
        refine KV (R_move rfl) rfl ?_
        refine KV (R_cmp rfl rfl rfl) rfl ?_
        refine K_nil ?_
        refine Q_then ?_
        refine K_if rfl (fun h27 => ?_) (fun h27 => ?_)
        ·
          refine K_seq ?_
          refine K_region ?_
          refine KV (R_move rfl) rfl ?_
          refine KV (R_move rfl) rfl ?_
          refine KV (R_cmp rfl rfl rfl) rfl ?_
          refine KV (R_move rfl) rfl ?_
          refine K_split ?_ ?_
          ·
            intro h31
            refine K_gyes rfl rfl ?_
            refine KV (R_fieldAddr 1 fd50_1 rfl) rfl ?_
            refine K_gyes rfl rfl ?_
            refine KV (R_loadO ty3 0 rfl rfl rfl rfl (fun _ => rfl) rfl) rfl ?_
            refine K_gyes rfl rfl ?_
            refine KV (R_cmp rfl rfl rfl) rfl ?_
            refine KV (R_pickT rfl rfl) rfl ?_
            refine KV (R_move rfl) rfl ?_
            refine K_split ?_ ?_
            ·
              intro h36
              refine K_gyes rfl rfl ?_
              refine KV (R_fieldAddr 2 fd50_2 rfl) rfl ?_
              refine K_gyes rfl rfl ?_
              refine KV (R_loadO ty48 0 rfl rfl rfl rfl (fun _ => rfl) rfl) rfl ?_
              refine K_gyes rfl rfl ?_
              refine KV (R_len sl48 rfl) rfl ?_
              refine K_gyes rfl rfl ?_
              refine KV (R_cmp rfl rfl rfl) rfl ?_
              refine KV (R_pickT rfl rfl) rfl ?_
              refine KV (R_assign rfl) rfl ?_
              refine K_nil ?_
              refine Q_then ?_
              refine K_ret ?_
              refine Q_then_ret ?_
              refine results_gen (rs := [.tmp 2]) (vs := [_]) rfl ⟨rfl, trivial⟩ ?_
              first
              | rfl
              | simp [tupV]
            ·
              intro h36
              exact absurd rfl h36
          ·
            intro h31
            exact absurd rfl h31
        ·
          exact absurd he h27
end Go.Proofs.X
