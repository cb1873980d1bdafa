/-
  Part of the proof: rules for walks, contracts of the functions that the statements reach, plain laws. Own work. No statement of the seat is proved here.
-/
import Derived.Test.YtdclodapkhgabaaGreatDoorPart2
import Derived.Test.YtdclodapkhgabaaGreatDoorPart4
import Derived.Test.YtdclodapkhgabaaGreatDoorPart1
import Derived.ChangeArms
import Derived.ChangeSame
import Derived.WideKeyArgs
import Derived.Lib.LaidTab
namespace Go.Proofs.X
open Go Pal Go.Proofs
attribute [local irreducible] Pal.KO Pal.KC Pal.KQ Pal.KD
theorem ty2109 : Ty Tryz.prog T2109 false 1 := .of (by kernel_rfl)
theorem sl2109 : slcOk Tryz.prog T2109 T2102 := by unfold slcOk; kernel_rfl
theorem fd2101_1 : fldOk Tryz.prog T2101 1 3 = true := by kernel_rfl
theorem fd2111_0 : fldOk Tryz.prog T2111 0 0 = true := by kernel_rfl
theorem z2102 : zeroOk Tryz.prog T2102 (.pointer none) := .of (by kernel_rfl)
theorem z2111 : zeroOk Tryz.prog T2111 (.agg #[.slice none 0 0, .map none]) := .of (by kernel_rfl)
theorem z2113 : zeroOk Tryz.prog T2113 (.agg #[.int .i64 0, .int .i64 0]) := .of (by kernel_rfl)
theorem pl2111 : placesOk Tryz.prog T2111 [(0, 1), (1, 1)] := ⟨_, Tryz.underlying134, by kernel_rfl⟩
theorem pl2115 : placesOk Tryz.prog T2115 [(0, 1), (1, 2), (3, 2)] := ⟨_, Tryz.underlying138, by kernel_rfl⟩
theorem c2119 : callable Tryz.prog F2119 = true := by kernel_rfl
theorem c2120 : callable Tryz.prog F2120 = true := by kernel_rfl
theorem c2125 : callable Tryz.prog F2125 = true := by kernel_rfl
theorem ap2109 : App Tryz.prog T2109 T2102 1 8 := .of sl2109 (by kernel_rfl)
theorem consider_specO (d : Dt) (S tb m : Nat) (w1 w2 w3 sv cv : Value) (c : Ch) (at_ : Int) (kvs : KVs) (f : Int → Option Ch) (H : View) (hd : RepDt H d w1 w2 w3) (hS : At H S 0 [w1, w2, w3, sv]) (hn : At H tb 0 [cv, mp m]) (hf : ChP kvs f) (hs : 0 ≤ c.s ∧ c.s < (d.to.length : Int)) (hat : 0 ≤ at_ ∧ at_ < ((d.to.getD c.s.toNat []).length : Int)) :
    SatO Tryz.prog F2125 ([] ++ [ptr S, ptr tb, chV c, .int .i64 at_] ++ []).toArray H [blk m (mapOb kvs)] (fun _ _ q => ∃ kvs', q = [blk m (mapOb kvs')] ∧ ChP kvs' (consF f (c, atI d c.s at_))) := consider_spec d S tb m w1 w2 w3 sv cv c at_ kvs f H hd hS hn hf hs hat

set_option maxRecDepth 4000 in
set_option maxHeartbeats 1000000 in
theorem search_spec (d : Dt) (l rk : List Int) (hok : DtOk d) (hr2 : ∀ y ∈ rk, y ≤ 2) (hm : mapsM l d.ranks rk = true) (hll : l.length ≤ 1048576) : ∀ m x H cs S w1 w2 w3 sv, x.size ≤ m → m ≤ 1048576 → RepT H x cs → Tr.nodesErr rk x = 0 → RepDt H d w1 w2 w3 → At H S 0 [w1, w2, w3, sv] → SSI H sv (srcL l rk) →
    Sat Tryz.prog F2119 #[ptr S, .agg cs.toArray] H (fun r H' => ∃ b f kids, r = ptr b ∧ RepTb H' (.mk f [] kids) b ∧ Bd d f ∧ ∀ R, IsR f R → TbS d l x (.mk f R kids)) := by
  intro m
  induction m with
  | zero => intro x H cs S w1 w2 w3 sv h; have := x.size_pos; omega
  | succ m ih =>
  intro x H cs S w1 w2 w3 sv hmx hb hr hne hd hS hsv
  cases hr with | mk y ts a cap b off cs' hs ha hA hrec =>
  have hsz : (Tr.node y ts).size = 1 + Tr.sizes ts := rfl
  have hln := Tr.length_le_sizes ts
  obtain ⟨hn1, hn2, hn3⟩ := Tr.nodesErr_zero.1 hne
  have hn512 := hok.n
  obtain ⟨ua2, uc2x, rfl⟩ := hd.a.shape
  obtain ⟨sva, svc, rfl⟩ := hsv.shape
  have hyl : y.toNat < (srcL l rk).length := by simp only [srcL, List.length_map, List.length_range]; omega
  have hyl2 : y < ((srcL l rk).length : Int) := by omega
  have hts2 : ts.length ≤ 2 := by
    have hlt : y.toNat < rk.length := by omega
    have h1 := hr2 _ (List.getElem_mem hlt)
    have e : rk.getD y.toNat 0 = rk[y.toNat] := by simp [List.getD, hlt]
    omega
  have hS1 := hS.one (j := 1) rfl
  have hS3 := hS.one (j := 3) rfl
  refine enterO (n := 134) (args := [ptr S, .agg #[.int .i64 y, .slice a ts.length cap]]) Tryz.func36 rfl rfl rfl fun w0 => ?_
  refine K_seq ?_
  refine K_region ?_
  refine KA (A_box rfl) rfl fun b3 => ?_
  refine KV (R_assign rfl) rfl ?_
  refine K_nil ?_
  refine Q_then ?_
  refine K_seq ?_
  refine K_region ?_
  refine KA (A_makeMap) rfl fun b18 => ?_
  refine KV (R_build z2111 pl2111 rfl rfl) rfl ?_
  refine KA (A_box rfl) rfl fun b20 => ?_
  refine KV (R_assign rfl) rfl ?_
  refine K_nil ?_
  refine Q_then ?_
  refine K_seq ?_
  refine K_region ?_
  refine KV (R_assign rfl) rfl ?_
  refine K_nil ?_
  refine Q_then ?_
  refine K_seq ?_
  refine K_seq ?_
  refine K_region ?_
  refine KV (R_fieldAddr 1 fd30_1 rfl) rfl ?_
  refine KV (R_loadO ty28 2 rfl rfl rfl rfl (fun _ => rfl) rfl) rfl ?_
  refine KV (R_len sl28 rfl) rfl ?_
  refine KV (R_move rfl) rfl ?_
  refine K_nil ?_
  refine Q_then ?_
  refine K_block ?_
  refine K_nilrow T2102 1 ?_
  refine K_nilrow T25 1 ?_
  refine K_loopD (G := Nat × View × Value × Value × List Tb × List Nat × List Value) [6, 8, 9, 24, 25, 26, 27, 28, 29, 30, 31, 32, 33, 34, 35, 36, 37, 38, 39, 40, 41, 42, 43, 44, 45, 46] (fun g => [(24, .int .i64 (g.1 : Int)), (6, g.2.2.2.1)]) (fun hl g => (((hl.set 1 (row g.2.2.1 T2102 1 g.1 (ptrs g.2.2.2.2.2.1))).set 0 (row g.2.2.2.1 T25 1 g.1 g.2.2.2.2.2.2)).set 2 (blk b20 (.cells #[g.2.2.1, mp b18] T2111 (0, 0))))) (fun g => g.2.1) (fun g => (g.1 ≤ ts.length) ∧ (VLe H g.2.1) ∧ (g.2.2.2.2.1.length = g.1) ∧ (g.2.2.2.2.2.1.length = g.1) ∧ (∀ i (h : i < g.2.2.2.2.1.length), RepTb g.2.1 g.2.2.2.2.1[i] (g.2.2.2.2.2.1.getD i 0)) ∧ (∀ i (h : i < ts.length) (h2 : i < g.2.2.2.2.1.length), TbS d l ts[i] g.2.2.2.2.1[i]) ∧ (RepL (RSI g.2.1) 1 (g.2.2.2.2.1.map Tb.R) g.2.2.2.2.2.2) ∧ (∀ t ∈ g.2.2.2.2.1, ∀ q ∈ t.R, 0 ≤ q ∧ q < (d.acc.length : Int)) ∧ (∀ t ∈ g.2.2.2.2.1, t.R.length ≤ d.acc.length) ∧ (∃ ad cp, g.2.2.1 = .slice ad g.1 cp) ∧ (∃ ad cp, g.2.2.2.1 = .slice ad g.1 cp)) (fun g => ts.length - g.1) (0, H, nilS, nilS, [], [], []) ⟨Nat.zero_le _, VLe.refl _, rfl, rfl, fun i h => absurd h (Nat.not_lt_zero _), fun i _ h => absurd h (Nat.not_lt_zero _), .nil, fun t h => (by cases h), fun t h => (by cases h), ⟨none, 0, rfl⟩, ⟨none, 0, rfl⟩⟩ ⟨rfl, rfl, trivial⟩ (by simp only [args0, Nat.reduceAdd, del, memN, beqN, Nat.reduceBEq, cond_true, cond_false]; rfl) rfl rfl ?_
  rintro ⟨k, V, wk, w6, kids, ps, rc⟩ ⟨hk, hV, hkl, hpl, hRk, hT, hrc, hB, hB2, hwk, hw6⟩
  dsimp only at hk hV hkl hpl hRk hT hrc hB hB2 hwk hw6
  dsimp only [List.set, List.cons_append, List.nil_append]
  obtain ⟨wka, wkc, rfl⟩ := hwk
  obtain ⟨w6a, w6c, rfl⟩ := hw6
  refine K_seq ?_
  refine K_region ?_
  refine KV (R_cmp rfl rfl rfl) rfl ?_
  refine K_nil ?_
  refine Q_then ?_
  refine K_seq ?_
  refine K_if rfl (fun h25 => ?_) (fun h25 => ?_)
  ·
    have hlt' : k < ts.length := by omega
    have htk := Tr.sizes_take ts k hlt'
    have hle' := Tr.sizes_take_le ts (k + 1)
    have ha' := ha (by intro e; subst e; simp at hlt')
    subst ha'
    obtain ⟨y0, y1, y2, y3, hcs⟩ := (hrec k hlt').shape
    have hreck := (hrec k hlt').mono hV
    rw [hcs] at hreck
    refine K_skip ?_
    refine Q_then ?_
    refine K_seq ?_
    refine K_block ?_
    refine K_seq ?_
    refine K_region ?_
    refine KV (R_indexN sl28 ty30 rfl rfl (by omega)) rfl ?_
    refine KV (R_loadH ty30 rfl (hcs ▸ (hA k hlt').2.mono hV) rfl (fun e => by cases e) rfl) rfl ?_
    refine KA (A_alloc z30) rfl fun b8 => ?_
    refine K_storeW ty30 0 rfl rfl rfl rfl rfl rfl rfl ?_
    refine K_nil ?_
    refine Q_then ?_
    refine K_seq ?_
    refine K_region ?_
    refine KV (R_move rfl) rfl ?_
    refine KV (R_loadW ty30 0 rfl rfl rfl rfl) rfl ?_
    refine K_call c2119 rfl rfl (ih ts[k] V _ S _ _ _ _ (by omega) (by omega) hreck (hn3 _ (List.getElem_mem hlt')) (hd.mono hV) (hS.mono hV) (hsv.mono hV)) ?_
    rintro _ V1 hv1 ⟨kb, fk, kk, rfl, hkT, hkB, hkS⟩
    refine KV (R_assign rfl) rfl ?_
    refine K_nil ?_
    refine Q_then ?_
    refine K_seq ?_
    refine K_region ?_
    refine KV (R_move rfl) rfl ?_
    refine KV (R_move rfl) rfl ?_
    refine KV (R_nilCheck rfl) rfl ?_
    refine KV (R_fieldAddr 0 fd2111_0 rfl) rfl ?_
    refine KV (R_loadO ty2109 3 rfl rfl rfl rfl (fun _ => rfl) rfl) rfl ?_
    refine KV (R_move rfl) rfl ?_
    refine KA (A_buildSlice (vs := [ptr kb]) sl2109 ty2102 z2102 rfl rfl (by simp [Value.cells, ptr]) (by simp) rfl (by decide)) rfl fun b37 => ?_
    refine K_append1 2 ap2109 rfl rfl rfl rfl rfl rfl ⟨by omega, by omega⟩ rfl fun a38 k38 hn38 => ?_
    refine KV (R_nilCheck rfl) rfl ?_
    refine KV (R_fieldAddr 0 fd2111_0 rfl) rfl ?_
    refine K_store ty2109 3 rfl rfl rfl rfl rfl rfl ?_
    refine K_nil ?_
    refine Q_then ?_
    refine K_region ?_
    refine KV (R_move rfl) rfl ?_
    refine KV (R_move rfl) rfl ?_
    refine K_call c2120 rfl rfl (wreached_spec fk [] kk kb d.acc.length V1 hkT hkB (by omega)) ?_
    rintro _ V2 hv2 ⟨R, hIR, hSR, hRl⟩
    obtain ⟨Ra, Rc, rfl⟩ := hSR.shape
    refine KA (A_buildSlice (vs := [.slice Ra R.length Rc]) sl44 ty25 z25 rfl rfl (by simp [Value.cells]) (by simp) rfl (by decide)) rfl fun b44 => ?_
    refine K_append1 2 ap44 rfl rfl rfl rfl rfl rfl ⟨by omega, by omega⟩ rfl fun a45 k45 hn45 => ?_
    refine KV (R_assign rfl) rfl ?_
    refine K_nil ?_
    refine Q_block ?_
    refine Q_then ?_
    refine K_region ?_
    refine KV (R_add rfl rfl (by omega)) rfl ?_
    refine KV (R_move rfl) rfl ?_
    refine K_nil ?_
    refine KQ_sel [0, 0, 1, 1, 1] rfl ?_
    refine Q_nextD (k + 1, V2, .slice a38 (k + 1) k38, .slice a45 (k + 1) k45, kids ++ [Tb.mk fk R kk], ps ++ [kb], rc ++ [.slice Ra R.length Rc]) ⟨hlt', hV.trans (hv1.trans hv2), by rw [List.length_append, hkl]; rfl, by rw [List.length_append, hpl]; rfl, kids_rep hRk (hv1.trans hv2) (hkT.mono hv2).setR (by omega), kids_tb hT (by omega) (by simp only [hkl]; exact hkS R hIR), by rw [List.map_append]; exact hrc.snocR (hv1.trans hv2) hSR, fun t ht q hq => (List.mem_append.1 ht).elim (fun h => hB t h q hq) (fun h => by rw [List.mem_singleton.1 h] at hq; exact hkB q ((hIR.mem q).1 hq)), fun t ht => (List.mem_append.1 ht).elim (hB2 t) (fun h => by rw [List.mem_singleton.1 h]; exact hRl), ⟨_, _, rfl⟩, ⟨_, _, rfl⟩⟩ (by (try dsimp only); omega) ⟨rfl, rfl, trivial⟩ rfl (by dsimp only [List.set]; rw [ptrs_snoc]; rfl) rfl
  ·
    have hk' : k = ts.length := by omega
    subst hk'
    refine K_exit ?_
    refine Q_then_exit ?_
    refine Q_then_exit ?_
    refine Q_block_exit ?_
    refine Q_then ?_
    refine K_seq ?_
    refine K_seq ?_
    refine KC_front 1 rfl ?_
    try dsimp only [List.eraseIdx]
    refine KC_pubrow rfl fun Va hva hkrow => ?_
    skip
    refine KC_front 1 rfl ?_
    try dsimp only [List.eraseIdx]
    refine KC_pubF fun Vb hvb hb20 => ?_
    skip
    refine KC_front 0 rfl ?_
    try dsimp only [List.eraseIdx]
    refine KC_pubrow rfl fun Vc hvc hrrow => ?_
    skip
    have hnode : At Vc b20 0 [.slice wka ts.length wkc, mp b18] := (At.of hb20).mono hvc
    have hvU := hV.trans (hva.trans (hvb.trans hvc))
    have hkp : ∀ i, i < ps.length → ∃ cb off, wka = some ⟨cb, off, none⟩ ∧ At Va cb (off + i * 1) [ptr (ps.getD i 0)] := ptrs_at (a := wka) (cap := wkc) (by rw [hpl]; exact hkrow) (by rw [hpl])
    have hSS : SSI Vc (.slice w6a ts.length w6c) (kids.map Tb.R) := ⟨rc, by rw [List.length_map, hkl]; exact hrrow.sl, hrc.impSI (hva.trans (hvb.trans hvc))⟩
    obtain ⟨yb, yo, ya, ycp, hye, hyrow, hyS⟩ := (hsv.mono hvU).get hyl
    cases hye
    rw [srcL_get hn1.1 hyl] at hyrow hyS
    have hsl := srcs_len l y
    refine K_regionD (fin := false) (R := [0, 1, 2, 3, 4, 5, 6, 7, 8, 9]) (by kernel_rfl) mixed (.cons_cons _ (.cons_cons _ (List.nil_sublist _))) ?_
    refine D_val rfl rfl rfl (R_move rfl) ?_
    refine D_val rfl rfl rfl (R_nilCheck rfl) ?_
    refine D_val rfl rfl rfl (R_fieldAddr 3 fd2101_1 rfl) ?_
    refine D_val rfl rfl rfl (R_loadH ty44 rfl (hS3.mono hvU) rfl (fun _ => rfl) rfl) ?_
    refine D_val rfl rfl rfl (R_fieldAddr 0 fd30_0 rfl) ?_
    refine D_val rfl rfl rfl (R_loadO ty3 1 rfl rfl rfl rfl (fun _ => rfl) rfl) ?_
    refine D_val rfl rfl rfl (R_index sl44 ty25 rfl rfl ⟨hn1.1, hyl2⟩) ?_
    refine D_val rfl rfl rfl (R_loadH ty25 rfl (hyrow) rfl (fun _ => rfl) rfl) ?_
    refine D_val rfl rfl rfl (R_len sl25 rfl) ?_
    refine D_val rfl rfl rfl (R_move rfl) ?_
    refine D_done ?_
    refine Q_then ?_
    refine K_block ?_
    refine K_loopD (G := Nat × View × KVs) [11, 12, 13, 14, 15, 16, 17, 56, 57, 58, 59, 60, 61, 62, 63, 64, 65, 66, 67, 68, 69, 70, 71, 72, 73, 74, 75, 76, 77, 78, 79, 80, 81, 82, 83, 84, 85, 86, 87, 88, 89, 90, 91, 92, 93, 94, 95, 96, 97, 98, 99, 100, 101, 102, 103, 104, 105, 106, 107, 108, 109, 110, 111, 112, 113, 114, 115, 116, 117, 118, 119, 120, 121, 122, 123, 124, 125, 126, 127, 128, 129, 130, 131, 132] (fun g => [(56, .int .i64 (g.1 : Int))]) (fun hl g => (hl.set 0 (blk b18 (mapOb g.2.2)))) (fun g => g.2.1) (fun g => (g.1 ≤ (srcs l y).length) ∧ (VLe Vc g.2.1) ∧ (ChP g.2.2 (fS d l y (kids.map Tb.R) g.1)) ∧ (Bd d (fS d l y (kids.map Tb.R) g.1))) (fun g => (srcs l y).length - g.1) (0, Vc, []) ⟨Nat.zero_le _, VLe.refl _, ChP.nil, Bd.none d⟩ ⟨rfl, trivial⟩ (by simp only [args0, Nat.reduceAdd, del, memN, beqN, Nat.reduceBEq, cond_true, cond_false]; rfl) rfl rfl ?_
    rintro ⟨i, V, kvs⟩ ⟨hi, hV2, hf, hBd⟩
    dsimp only at hi hV2 hf hBd
    dsimp only [List.set, List.cons_append, List.nil_append]
    refine K_seq ?_
    refine K_region ?_
    refine KV (R_cmp rfl rfl rfl) rfl ?_
    refine K_nil ?_
    refine Q_then ?_
    refine K_seq ?_
    refine K_if rfl (fun h57 => ?_) (fun h57 => ?_)
    ·
      have hi' : i < (srcs l y).length := by omega
      obtain ⟨sb, so, hse, hsx⟩ := (hyS.mono hV2).get hi'
      cases hse
      obtain ⟨hr1, hr3, hrl⟩ := row_len hok hm (List.getElem_mem hi') hn2 hn1.1
      have hsg : (srcs l y).getD i 0 = (srcs l y)[i] := by simp [List.getD, hi']
      refine K_skip ?_
      refine Q_then ?_
      refine K_seq ?_
      refine K_block ?_
      refine K_seq ?_
      refine K_region ?_
      refine KV (R_indexN sl25 ty3 rfl rfl (by omega)) rfl ?_
      refine KV (R_loadH ty3 rfl (hsx) rfl (fun _ => rfl) rfl) rfl ?_
      refine KV (R_assign rfl) rfl ?_
      refine K_nil ?_
      refine Q_then ?_
      refine K_seq ?_
      refine K_region ?_
      refine KV (R_move rfl) rfl ?_
      refine KV (R_len sl44 rfl) rfl ?_
      refine K_nil ?_
      refine Q_then ?_
      refine K_block ?_
      refine K_seq ?_
      refine K_region ?_
      refine KV (R_cmp rfl rfl rfl) rfl ?_
      refine KV (R_assign rfl) rfl ?_
      refine K_nil ?_
      refine Q_then ?_
      refine K_if rfl (fun h103 => ?_) (fun h103 => ?_)
      ·
        have hz0 : ts.length = 0 := by omega
        have hkE : kids = [] := List.eq_nil_of_length_eq_zero (by omega)
        refine K_region ?_
        refine KV (R_move rfl) rfl ?_
        refine KV (R_move rfl) rfl ?_
        refine KV (R_move rfl) rfl ?_
        refine KV (R_build z2115 pl2115 rfl rfl) rfl ?_
        refine KO_sel [0, 0] rfl ?_
        refine K_callO (first := []) (captured := []) (vs := [ptr S, ptr b20, chV (⟨(srcs l y)[i], 0, 0, 0, 0⟩ : Ch), .int .i64 (0)]) [_] _ (List.Perm.refl _) c2125 rfl rfl rfl (consider_specO d S b20 b18 _ _ _ _ _ (⟨(srcs l y)[i], 0, 0, 0, 0⟩ : Ch) (0) kvs (fS d l y (kids.map Tb.R) i) V (hd.mono (hvU.trans hV2)) (hS.mono (hvU.trans hV2)) (hnode.mono hV2) hf hr3 ⟨by omega, by rw [hrl, hz0, Nat.pow_zero]; decide⟩) ?_
        rintro _ V1 q hv1 ⟨kvs1, rfl, hf1⟩
        dsimp only [List.cons_append, List.nil_append]
        refine K_nil ?_
        refine Q_block ?_
        refine Q_block ?_
        refine Q_then ?_
        refine K_region ?_
        refine KV (R_add rfl rfl (by omega)) rfl ?_
        refine KV (R_move rfl) rfl ?_
        refine K_nil ?_
        have hE : fS d l y (kids.map Tb.R) (i + 1) = consF (fS d l y (kids.map Tb.R) i) ((⟨(srcs l y)[i], 0, 0, 0, 0⟩ : Ch), atI d (srcs l y)[i] 0) := by rw [fS, hsg, hkE]; rfl
        have hab := atI_bound hok (i := 0) hr1 (by rw [hrl, hz0, Nat.pow_zero]; exact Nat.one_pos)
        refine Q_nextD (i + 1, V1, kvs1) ⟨hi', hV2.trans hv1, by rw [hE]; exact hf1, by rw [hE]; exact hBd.cons _ hab⟩ (by (try dsimp only); omega) ⟨rfl, trivial⟩ rfl rfl rfl
      ·
        refine K_seq ?_
        refine K_region ?_
        refine KV (R_cmp rfl rfl rfl) rfl ?_
        refine KV (R_assign rfl) rfl ?_
        refine K_nil ?_
        refine Q_then ?_
        refine K_if rfl (fun h110 => ?_) (fun h110 => ?_)
        ·
          have hz1 : ts.length = 1 := by omega
          obtain ⟨t0, hkE⟩ : ∃ t0, kids = [t0] := List.length_eq_one_iff.1 (by omega)
          obtain ⟨b0q, o0q, a0q, cp0q, he0, hrow0, hS0R⟩ := (hSS.mono hV2).get (i := 0) (by rw [List.length_map]; omega)
          cases he0
          have hR0 : (kids.map Tb.R)[0]'(by rw [List.length_map]; omega) = t0.R := by simp [hkE]
          rw [hR0] at hrow0 hS0R
          have hb0 := hB2 t0 (by rw [hkE]; simp)
          refine K_seq ?_
          refine K_region ?_
          refine KV (R_move rfl) rfl ?_
          refine KV (R_index sl44 ty25 rfl rfl ⟨by omega, by omega⟩) rfl ?_
          refine KV (R_loadH ty25 rfl (hrow0) rfl (fun _ => rfl) rfl) rfl ?_
          refine KV (R_len sl25 rfl) rfl ?_
          refine KV (R_move rfl) rfl ?_
          refine K_nil ?_
          refine Q_then ?_
          refine K_block ?_
          refine K_loopD (G := Nat × View × KVs) [12, 13, 116, 117, 118, 119, 120, 121, 122, 123, 124, 125, 126, 127, 128, 129, 130, 131] (fun g => [(116, .int .i64 (g.1 : Int))]) (fun hl g => (hl.set 0 (blk b18 (mapOb g.2.2)))) (fun g => g.2.1) (fun g => (g.1 ≤ t0.R.length) ∧ (VLe V g.2.1) ∧ (ChP g.2.2 (f1 d (srcs l y)[i] t0.R (fS d l y (kids.map Tb.R) i) g.1)) ∧ (Bd d (f1 d (srcs l y)[i] t0.R (fS d l y (kids.map Tb.R) i) g.1))) (fun g => t0.R.length - g.1) (0, V, kvs) ⟨Nat.zero_le _, VLe.refl _, hf, hBd⟩ ⟨rfl, trivial⟩ (by simp only [args0, Nat.reduceAdd, del, memN, beqN, Nat.reduceBEq, cond_true, cond_false]; rfl) rfl rfl ?_
          rintro ⟨j, V3, kvs3⟩ ⟨hj, hV3, hf3, hB3⟩
          dsimp only at hj hV3 hf3 hB3
          dsimp only [List.set, List.cons_append, List.nil_append]
          refine K_seq ?_
          refine K_region ?_
          refine KV (R_cmp rfl rfl rfl) rfl ?_
          refine K_nil ?_
          refine Q_then ?_
          refine K_seq ?_
          refine K_if rfl (fun h117 => ?_) (fun h117 => ?_)
          ·
            have hj' : j < t0.R.length := by omega
            obtain ⟨pb, po, hpe, hpx⟩ := (hS0R.mono hV3).get hj'
            cases hpe
            have hpq := hB t0 (by rw [hkE]; simp) _ (List.getElem_mem hj')
            refine K_skip ?_
            refine Q_then ?_
            refine K_seq ?_
            refine K_block ?_
            refine K_seq ?_
            refine K_region ?_
            refine KV (R_move rfl) rfl ?_
            refine KV (R_indexN sl25 ty3 rfl rfl (by omega)) rfl ?_
            refine KV (R_loadH ty3 rfl (hpx) rfl (fun _ => rfl) rfl) rfl ?_
            refine KV (R_assign rfl) rfl ?_
            refine KV (R_assign rfl) rfl ?_
            refine K_nil ?_
            refine Q_then ?_
            refine K_region ?_
            refine KV (R_move rfl) rfl ?_
            refine KV (R_move rfl) rfl ?_
            refine KV (R_move rfl) rfl ?_
            refine KV (R_move rfl) rfl ?_
            refine KV (R_buildArr z2113 ar2113 ty3 rfl rfl) rfl ?_
            refine KV (R_move rfl) rfl ?_
            refine KV (R_buildArr z2113 ar2113 ty3 rfl rfl) rfl ?_
            refine KV (R_build z2115 pl2115 rfl rfl) rfl ?_
            refine KV (R_move rfl) rfl ?_
            refine KO_sel [0, 0] rfl ?_
            refine K_callO (first := []) (captured := []) (vs := [ptr S, ptr b20, chV (⟨(srcs l y)[i], t0.R[j], 0, (j : Int), 0⟩ : Ch), .int .i64 (t0.R[j])]) [_] _ (List.Perm.refl _) c2125 rfl rfl rfl (consider_specO d S b20 b18 _ _ _ _ _ (⟨(srcs l y)[i], t0.R[j], 0, (j : Int), 0⟩ : Ch) (t0.R[j]) kvs3 (f1 d (srcs l y)[i] t0.R (fS d l y (kids.map Tb.R) i) j) V3 (hd.mono (hvU.trans (hV2.trans hV3))) (hS.mono (hvU.trans (hV2.trans hV3))) (hnode.mono (hV2.trans hV3)) hf3 hr3 ⟨hpq.1, by rw [hrl, hz1, Nat.pow_one]; exact hpq.2⟩) ?_
            rintro _ V1 q hv1 ⟨kvs1, rfl, hf1⟩
            dsimp only [List.cons_append, List.nil_append]
            refine K_nil ?_
            refine Q_block ?_
            refine Q_then ?_
            refine K_region ?_
            refine KV (R_add rfl rfl (by omega)) rfl ?_
            refine KV (R_move rfl) rfl ?_
            refine K_nil ?_
            have hE : f1 d (srcs l y)[i] t0.R (fS d l y (kids.map Tb.R) i) (j + 1) = consF (f1 d (srcs l y)[i] t0.R (fS d l y (kids.map Tb.R) i) j) ((⟨(srcs l y)[i], t0.R[j], 0, (j : Int), 0⟩ : Ch), atI d (srcs l y)[i] t0.R[j]) := by rw [f1, show t0.R.getD j 0 = t0.R[j] by simp [List.getD, hj']]
            have hab := atI_bound hok (i := t0.R[j]) hr1 (by rw [hrl, hz1, Nat.pow_one]; omega)
            refine Q_nextD (j + 1, V1, kvs1) ⟨hj', hV3.trans hv1, by rw [hE]; exact hf1, by rw [hE]; exact hB3.cons _ hab⟩ (by (try dsimp only); omega) ⟨rfl, trivial⟩ rfl rfl rfl
          ·
            have hj' : j = t0.R.length := by omega
            subst hj'
            refine K_exit ?_
            refine Q_then_exit ?_
            refine Q_then_exit ?_
            refine Q_block_exit ?_
            refine Q_block ?_
            refine Q_block ?_
            refine Q_then ?_
            refine K_region ?_
            refine KV (R_add rfl rfl (by omega)) rfl ?_
            refine KV (R_move rfl) rfl ?_
            refine K_nil ?_
            have hE : fS d l y (kids.map Tb.R) (i + 1) = f1 d (srcs l y)[i] t0.R (fS d l y (kids.map Tb.R) i) t0.R.length := by rw [f1_all, fS, hsg, hkE]; rfl
            refine Q_nextD (i + 1, V3, kvs3) ⟨hi', hV2.trans hV3, by rw [hE]; exact hf3, by rw [hE]; exact hB3⟩ (by (try dsimp only); omega) ⟨rfl, trivial⟩ rfl rfl rfl
        ·
          have hz2 : ts.length = 2 := by omega
          obtain ⟨t0, t1, hkE⟩ : ∃ t0 t1, kids = [t0, t1] := two_of (by omega)
          obtain ⟨b0q, o0q, a0q, cp0q, he0, hrow0, hS0R⟩ := (hSS.mono hV2).get (i := 0) (by rw [List.length_map]; omega)
          cases he0
          have hR0 : (kids.map Tb.R)[0]'(by rw [List.length_map]; omega) = t0.R := by simp [hkE]
          rw [hR0] at hrow0 hS0R
          obtain ⟨b1q, o1q, a1q, cp1q, he1, hrow1, hS1R⟩ := (hSS.mono hV2).get (i := 1) (by rw [List.length_map]; omega)
          cases he1
          have hR1 : (kids.map Tb.R)[1]'(by rw [List.length_map]; omega) = t1.R := by simp [hkE]
          rw [hR1] at hrow1 hS1R
          have hb1 := hB2 t1 (by rw [hkE]; simp)
          have hb0 := hB2 t0 (by rw [hkE]; simp)
          refine K_seq ?_
          refine K_region ?_
          refine KV (R_move rfl) rfl ?_
          refine KV (R_index sl44 ty25 rfl rfl ⟨by omega, by omega⟩) rfl ?_
          refine KV (R_loadH ty25 rfl (hrow0) rfl (fun _ => rfl) rfl) rfl ?_
          refine KV (R_len sl25 rfl) rfl ?_
          refine KV (R_move rfl) rfl ?_
          refine K_nil ?_
          refine Q_then ?_
          refine K_block ?_
          refine K_loopD (G := Nat × View × KVs) [14, 15, 16, 17, 66, 67, 68, 69, 70, 71, 72, 73, 74, 75, 76, 77, 78, 79, 80, 81, 82, 83, 84, 85, 86, 87, 88, 89, 90, 91, 92, 93, 94, 95, 96, 97, 98, 99, 100, 101, 102] (fun g => [(66, .int .i64 (g.1 : Int))]) (fun hl g => (hl.set 0 (blk b18 (mapOb g.2.2)))) (fun g => g.2.1) (fun g => (g.1 ≤ t0.R.length) ∧ (VLe V g.2.1) ∧ (ChP g.2.2 (f2 d (srcs l y)[i] t0.R t1.R (fS d l y (kids.map Tb.R) i) g.1)) ∧ (Bd d (f2 d (srcs l y)[i] t0.R t1.R (fS d l y (kids.map Tb.R) i) g.1))) (fun g => t0.R.length - g.1) (0, V, kvs) ⟨Nat.zero_le _, VLe.refl _, hf, hBd⟩ ⟨rfl, trivial⟩ (by simp only [args0, Nat.reduceAdd, del, memN, beqN, Nat.reduceBEq, cond_true, cond_false]; rfl) rfl rfl ?_
          rintro ⟨j, V3, kvs3⟩ ⟨hj, hV3, hf3, hB3⟩
          dsimp only at hj hV3 hf3 hB3
          dsimp only [List.set, List.cons_append, List.nil_append]
          refine K_seq ?_
          refine K_region ?_
          refine KV (R_cmp rfl rfl rfl) rfl ?_
          refine K_nil ?_
          refine Q_then ?_
          refine K_seq ?_
          refine K_if rfl (fun h67 => ?_) (fun h67 => ?_)
          ·
            have hj' : j < t0.R.length := by omega
            obtain ⟨pb, po, hpe, hpx⟩ := (hS0R.mono hV3).get hj'
            cases hpe
            have hpq := hB t0 (by rw [hkE]; simp) _ (List.getElem_mem hj')
            refine K_skip ?_
            refine Q_then ?_
            refine K_seq ?_
            refine K_block ?_
            refine K_seq ?_
            refine K_region ?_
            refine KV (R_move rfl) rfl ?_
            refine KV (R_indexN sl25 ty3 rfl rfl (by omega)) rfl ?_
            refine KV (R_loadH ty3 rfl (hpx) rfl (fun _ => rfl) rfl) rfl ?_
            refine KV (R_assign rfl) rfl ?_
            refine KV (R_assign rfl) rfl ?_
            refine K_nil ?_
            refine Q_then ?_
            refine K_seq ?_
            refine K_region ?_
            refine KV (R_move rfl) rfl ?_
            refine KV (R_index sl44 ty25 rfl rfl ⟨by omega, by omega⟩) rfl ?_
            refine KV (R_loadH ty25 rfl (hrow1.mono hV3) rfl (fun _ => rfl) rfl) rfl ?_
            refine KV (R_len sl25 rfl) rfl ?_
            refine KV (R_move rfl) rfl ?_
            refine K_nil ?_
            refine Q_then ?_
            refine K_block ?_
            refine K_loopD (G := Nat × View × KVs) [16, 17, 75, 76, 77, 78, 79, 80, 81, 82, 83, 84, 85, 86, 87, 88, 89, 90, 91, 92, 93, 94, 95, 96, 97, 98, 99, 100, 101] (fun g => [(75, .int .i64 (g.1 : Int))]) (fun hl g => (hl.set 0 (blk b18 (mapOb g.2.2)))) (fun g => g.2.1) (fun g => (g.1 ≤ t1.R.length) ∧ (VLe V3 g.2.1) ∧ (ChP g.2.2 (f2in d (srcs l y)[i] t0.R[j] j t1.R (f2 d (srcs l y)[i] t0.R t1.R (fS d l y (kids.map Tb.R) i) j) g.1)) ∧ (Bd d (f2in d (srcs l y)[i] t0.R[j] j t1.R (f2 d (srcs l y)[i] t0.R t1.R (fS d l y (kids.map Tb.R) i) j) g.1))) (fun g => t1.R.length - g.1) (0, V3, kvs3) ⟨Nat.zero_le _, VLe.refl _, hf3, hB3⟩ ⟨rfl, trivial⟩ (by simp only [args0, Nat.reduceAdd, del, memN, beqN, Nat.reduceBEq, cond_true, cond_false]; rfl) rfl rfl ?_
            rintro ⟨z, V4, kvs4⟩ ⟨hz, hV4, hf4, hB4⟩
            dsimp only at hz hV4 hf4 hB4
            dsimp only [List.set, List.cons_append, List.nil_append]
            refine K_seq ?_
            refine K_region ?_
            refine KV (R_cmp rfl rfl rfl) rfl ?_
            refine K_nil ?_
            refine Q_then ?_
            refine K_seq ?_
            refine K_if rfl (fun h76 => ?_) (fun h76 => ?_)
            ·
              have hz' : z < t1.R.length := by omega
              obtain ⟨qb, qo, hqe, hqx⟩ := (hS1R.mono (hV3.trans hV4)).get hz'
              cases hqe
              have hqq := hB t1 (by rw [hkE]; simp) _ (List.getElem_mem hz')
              have hmb := mul_bound hpq hqq
              have hnn : (d.acc.length : Int) * (d.acc.length : Int) ≤ 262144 := by
                rw [← Int.natCast_mul]
                have : d.acc.length * d.acc.length ≤ 512 * 512 := Nat.mul_le_mul hn512.2 hn512.2
                omega
              have hp0 : 0 ≤ t0.R[j] * (d.acc.length : Int) := Int.mul_nonneg hpq.1 (by omega)
              refine K_skip ?_
              refine Q_then ?_
              refine K_seq ?_
              refine K_block ?_
              refine K_seq ?_
              refine K_region ?_
              refine KV (R_move rfl) rfl ?_
              refine KV (R_indexN sl25 ty3 rfl rfl (by omega)) rfl ?_
              refine KV (R_loadH ty3 rfl (hqx) rfl (fun _ => rfl) rfl) rfl ?_
              refine KV (R_assign rfl) rfl ?_
              refine KV (R_assign rfl) rfl ?_
              refine K_nil ?_
              refine Q_then ?_
              refine K_region ?_
              refine KV (R_move rfl) rfl ?_
              refine KV (R_move rfl) rfl ?_
              refine KV (R_move rfl) rfl ?_
              refine KV (R_move rfl) rfl ?_
              refine KV (R_move rfl) rfl ?_
              refine KV (R_buildArr z2113 ar2113 ty3 rfl rfl) rfl ?_
              refine KV (R_move rfl) rfl ?_
              refine KV (R_move rfl) rfl ?_
              refine KV (R_buildArr z2113 ar2113 ty3 rfl rfl) rfl ?_
              refine KV (R_build z2115 pl2115 rfl rfl) rfl ?_
              refine KV (R_move rfl) rfl ?_
              refine KV (R_move rfl) rfl ?_
              refine KV (R_nilCheck rfl) rfl ?_
              refine KV (R_fieldAddr 0 fd2101_0 rfl) rfl ?_
              refine KV (R_fieldAddr 1 fd54_1 rfl) rfl ?_
              refine KV (R_loadH ty52 rfl (hS1.mono (hvU.trans (hV2.trans (hV3.trans hV4)))) rfl (fun _ => rfl) rfl) rfl ?_
              refine KV (R_len sl52 rfl) rfl ?_
              refine KV (R_mul rfl rfl (by omega)) rfl ?_
              refine KV (R_move rfl) rfl ?_
              refine KV (R_add rfl rfl (by omega)) rfl ?_
              refine KO_sel [0, 0] rfl ?_
              refine K_callO (first := []) (captured := []) (vs := [ptr S, ptr b20, chV (⟨(srcs l y)[i], t0.R[j], t1.R[z], (j : Int), (z : Int)⟩ : Ch), .int .i64 (t0.R[j] * (d.acc.length : Int) + t1.R[z])]) [_] _ (List.Perm.refl _) c2125 rfl rfl rfl (consider_specO d S b20 b18 _ _ _ _ _ (⟨(srcs l y)[i], t0.R[j], t1.R[z], (j : Int), (z : Int)⟩ : Ch) (t0.R[j] * (d.acc.length : Int) + t1.R[z]) kvs4 (f2in d (srcs l y)[i] t0.R[j] j t1.R (f2 d (srcs l y)[i] t0.R t1.R (fS d l y (kids.map Tb.R) i) j) z) V4 (hd.mono (hvU.trans (hV2.trans (hV3.trans hV4)))) (hS.mono (hvU.trans (hV2.trans (hV3.trans hV4)))) (hnode.mono (hV2.trans (hV3.trans hV4))) hf4 hr3 ⟨hmb.1, by rw [hrl, hz2, Nat.pow_two, Int.natCast_mul]; exact hmb.2⟩) ?_
              rintro _ V1 q hv1 ⟨kvs1, rfl, hf1⟩
              dsimp only [List.cons_append, List.nil_append]
              refine K_nil ?_
              refine Q_block ?_
              refine Q_then ?_
              refine K_region ?_
              refine KV (R_add rfl rfl (by omega)) rfl ?_
              refine KV (R_move rfl) rfl ?_
              refine K_nil ?_
              have hE : f2in d (srcs l y)[i] t0.R[j] j t1.R (f2 d (srcs l y)[i] t0.R t1.R (fS d l y (kids.map Tb.R) i) j) (z + 1) = consF (f2in d (srcs l y)[i] t0.R[j] j t1.R (f2 d (srcs l y)[i] t0.R t1.R (fS d l y (kids.map Tb.R) i) j) z) ((⟨(srcs l y)[i], t0.R[j], t1.R[z], (j : Int), (z : Int)⟩ : Ch), atI d (srcs l y)[i] (t0.R[j] * (d.acc.length : Int) + t1.R[z])) := by rw [f2in, show t1.R.getD z 0 = t1.R[z] by simp [List.getD, hz']]
              have hab := atI_bound hok (i := t0.R[j] * (d.acc.length : Int) + t1.R[z]) hr1 (by rw [hrl, hz2, Nat.pow_two]; have := hmb.2; rw [← Int.natCast_mul] at this; omega)
              refine Q_nextD (z + 1, V1, kvs1) ⟨hz', hV4.trans hv1, by rw [hE]; exact hf1, by rw [hE]; exact hB4.cons _ hab⟩ (by (try dsimp only); omega) ⟨rfl, trivial⟩ rfl rfl rfl
            ·
              have hz' : z = t1.R.length := by omega
              subst hz'
              refine K_exit ?_
              refine Q_then_exit ?_
              refine Q_then_exit ?_
              refine Q_block_exit ?_
              refine Q_block ?_
              refine Q_then ?_
              refine K_region ?_
              refine KV (R_add rfl rfl (by omega)) rfl ?_
              refine KV (R_move rfl) rfl ?_
              refine K_nil ?_
              have hE : f2 d (srcs l y)[i] t0.R t1.R (fS d l y (kids.map Tb.R) i) (j + 1) = f2in d (srcs l y)[i] t0.R[j] j t1.R (f2 d (srcs l y)[i] t0.R t1.R (fS d l y (kids.map Tb.R) i) j) t1.R.length := by rw [f2, show t0.R.getD j 0 = t0.R[j] by simp [List.getD, hj']]
              refine Q_nextD (j + 1, V4, kvs4) ⟨hj', hV3.trans hV4, by rw [hE]; exact hf4, by rw [hE]; exact hB4⟩ (by (try dsimp only); omega) ⟨rfl, trivial⟩ rfl rfl rfl
          ·
            have hj' : j = t0.R.length := by omega
            subst hj'
            refine K_exit ?_
            refine Q_then_exit ?_
            refine Q_then_exit ?_
            refine Q_block_exit ?_
            refine Q_block ?_
            refine Q_block ?_
            refine Q_then ?_
            refine K_region ?_
            refine KV (R_add rfl rfl (by omega)) rfl ?_
            refine KV (R_move rfl) rfl ?_
            refine K_nil ?_
            have hE : fS d l y (kids.map Tb.R) (i + 1) = f2 d (srcs l y)[i] t0.R t1.R (fS d l y (kids.map Tb.R) i) t0.R.length := by rw [f2_all, fS, hsg, hkE]; rfl
            refine Q_nextD (i + 1, V3, kvs3) ⟨hi', hV2.trans hV3, by rw [hE]; exact hf3, by rw [hE]; exact hB3⟩ (by (try dsimp only); omega) ⟨rfl, trivial⟩ rfl rfl rfl
    ·
      have hi' : i = (srcs l y).length := by omega
      subst hi'
      rw [fS_all] at hf hBd
      refine K_exit ?_
      refine Q_then_exit ?_
      refine Q_then_exit ?_
      refine Q_block_exit ?_
      refine Q_then ?_
      refine K_seq ?_
      refine K_region ?_
      refine KV (R_move rfl) rfl ?_
      refine KV (R_assign rfl) rfl ?_
      refine K_nil ?_
      refine KQ_front 0 rfl ?_
      try dsimp only [List.eraseIdx]
      refine KQ_pubF fun Vm hvm hmap => ?_
      skip
      refine Q_then ?_
      refine K_ret ?_
      refine results_gen (rs := [.tmp 4]) (vs := [_]) rfl ⟨rfl, trivial⟩ ?_
      refine ⟨b20, _, kids, rfl, .mk _ [] kids b20 b18 kvs wka wkc (fun i => ps.getD i 0) (by rw [hkl]; exact hnode.mono (hV2.trans hvm)) hmap hf (fun i hi => ?_) (fun i hi => (hRk i hi).mono (hva.trans (hvb.trans (hvc.trans (hV2.trans hvm))))), hBd, fun R hR => .mk y ts R kids hkl (fun i h h2 => hT i h h2) hR⟩
      obtain ⟨cb, co, e1, e2⟩ := hkp i (by omega)
      exact ⟨cb, co, e1, e2.mono (hvb.trans (hvc.trans (hV2.trans hvm)))⟩
end Go.Proofs.X

namespace Go.Proofs.X
open Go Pal Go.Proofs
attribute [local irreducible] Pal.KO Pal.KC Pal.KQ Pal.KD
theorem fd2115_1 : fldOk Tryz.prog T2115 1 1 = true := by kernel_rfl
theorem c2121 : callable Tryz.prog F2121 = true := by kernel_rfl
theorem wtree_spec (d : Dt) (l rk : List Int) (hr2 : ∀ y ∈ rk, y ≤ 2) (hll : l.length ≤ 1048576) : ∀ m x tb b q H, x.size ≤ m → m ≤ 1048576 → TbS d l x tb → Tr.nodesErr rk x = 0 → RepTb H tb b → (tb.f q).isSome = true → Sat Tryz.prog F2121 #[ptr b, .int .i64 q] H (fun r H' => ∃ ds, r = .agg ds.toArray ∧ RepT H' (tb.tree q) ds) := by
  intro m
  induction m with
  | zero => intro x tb b q H h; have := x.size_pos; omega
  | succ m ih =>
  intro x tb b q H hm hb8 hT hne hrep hq
  cases hT with | mk y ts R kids hl hk hR =>
  cases hrep with | mk _ _ _ _ mm kvs a cap ps hb hmm hfP hA hr =>
  obtain ⟨c, hc⟩ : ∃ c, (fT d l y (kids.map Tb.R)) q = some c := Option.isSome_iff_exists.1 hq
  have hsz : (Tr.node y ts).size = 1 + Tr.sizes ts := rfl
  have hln := Tr.length_le_sizes ts
  obtain ⟨hn1, hn2, hn3⟩ := Tr.nodesErr_zero.1 hne
  have hk2 : kids.length ≤ 2 := by
    have hlt : y.toNat < rk.length := by omega
    have h1 := hr2 _ (List.getElem_mem hlt)
    have e : rk.getD y.toNat 0 = rk[y.toNat] := by simp [List.getD, hlt]
    omega
  have hks := kid_some rfl hc hk2
  have hcs := mem_srcs.1 (cand_src rfl hc)
  have hd0 := hb.one (j := 0) rfl
  have hd1 := hb.one (j := 1) rfl
  have htree : Tb.tree (.mk (fT d l y (kids.map Tb.R)) R kids) q = .node c.s (Tb.trees kids [c.p, c.q]) := by rw [Tb.tree, hc]; rfl
  have hlk : (lookI kvs q).getD (chV ch0) = .agg #[.int .i64 c.s, .int .i64 c.p, .int .i64 c.q, .int .i64 c.i, .int .i64 c.k] := by rw [hfP.val, hc]; rfl
  refine enterO (n := 41) (args := [ptr b, .int .i64 q]) Tryz.func38 rfl rfl rfl fun w0 => ?_
  refine K_seq ?_
  refine K_region ?_
  refine KA (A_alloc z30) rfl fun b4 => ?_
  refine K_nil ?_
  refine Q_then ?_
  refine K_seq ?_
  refine K_region ?_
  refine KV (R_move rfl) rfl ?_
  refine KV (R_nilCheck rfl) rfl ?_
  refine KV (R_fieldAddr 1 fd2111_1 rfl) rfl ?_
  refine KV (R_loadH ty2108 rfl (hd1) rfl (fun _ => rfl) rfl) rfl ?_
  refine KV (R_move rfl) rfl ?_
  refine KV (R_lookV mt2108 (by kernel_rfl) z2115 rfl rfl (.inl hmm) hlk) rfl ?_
  refine KA (A_alloc z2115) rfl fun b5 => ?_
  refine K_storeW ty2115 0 rfl rfl rfl rfl rfl rfl rfl ?_
  refine K_nil ?_
  refine Q_then ?_
  refine K_seq ?_
  refine K_region ?_
  refine KV (R_fieldAddr 0 fd2115_0 rfl) rfl ?_
  refine KV (R_loadO ty3 0 rfl rfl rfl rfl (fun _ => rfl) rfl) rfl ?_
  refine KV (R_build z30 pl30 rfl rfl) rfl ?_
  refine KA (A_alloc z30) rfl fun b6 => ?_
  refine K_storeW ty30 0 rfl rfl rfl rfl rfl rfl rfl ?_
  refine K_nil ?_
  refine Q_then ?_
  refine K_seq ?_
  refine K_seq ?_
  refine K_region ?_
  refine KV (R_move rfl) rfl ?_
  refine KV (R_nilCheck rfl) rfl ?_
  refine KV (R_fieldAddr 0 fd2111_0 rfl) rfl ?_
  refine KV (R_loadH ty2109 rfl (hd0) rfl (fun _ => rfl) rfl) rfl ?_
  refine KV (R_len sl2109 rfl) rfl ?_
  refine KV (R_move rfl) rfl ?_
  refine K_nil ?_
  refine Q_then ?_
  refine K_block ?_
  refine K_nilrow T30 2 ?_
  refine K_loopD (G := Nat × View × Value × List Value) [7, 8, 23, 24, 25, 26, 27, 28, 29, 30, 31, 32, 33, 34, 35, 36, 37, 38, 39] (fun g => [(23, .int .i64 (g.1 : Int))]) (fun hl g => ((hl.set 0 (row g.2.2.1 T30 2 g.1 g.2.2.2)).set 1 (blk b6 (.cells #[.int .i64 c.s, g.2.2.1] T30 (0, 0))))) (fun g => g.2.1) (fun g => (g.1 ≤ kids.length) ∧ (VLe H g.2.1) ∧ (RepL (RepT g.2.1) 2 ((Tb.trees kids [c.p, c.q]).take g.1) g.2.2.2) ∧ (∃ ad cp, g.2.2.1 = .slice ad g.1 cp)) (fun g => kids.length - g.1) (0, H, nilS, []) ⟨Nat.zero_le _, VLe.refl _, .nil, none, 0, rfl⟩ ⟨rfl, trivial⟩ (by simp only [args0, Nat.reduceAdd, del, memN, beqN, Nat.reduceBEq, cond_true, cond_false]; rfl) rfl rfl ?_
  rintro ⟨k, V, w, xs⟩ ⟨hk0, hV, hL, hw⟩
  dsimp only at hk0 hV hL hw
  dsimp only [List.set, List.cons_append, List.nil_append]
  obtain ⟨wa, wcp, rfl⟩ := hw
  refine K_seq ?_
  refine K_region ?_
  refine KV (R_cmp rfl rfl rfl) rfl ?_
  refine K_nil ?_
  refine Q_then ?_
  refine K_seq ?_
  refine K_if rfl (fun h24 => ?_) (fun h24 => ?_)
  ·
    have hk' : k < kids.length := by omega
    have hkt : k < ts.length := by omega
    obtain ⟨cb, co, hae, hkp⟩ := hA k hk'
    subst hae
    refine K_skip ?_
    refine Q_then ?_
    refine K_seq ?_
    refine K_block ?_
    refine K_seq ?_
    refine K_region ?_
    refine KV (R_move rfl) rfl ?_
    refine KV (R_indexN sl2109 ty2102 rfl rfl (by omega)) rfl ?_
    refine KV (R_loadH ty2102 rfl (hkp.mono hV) rfl (fun _ => rfl) rfl) rfl ?_
    refine KV (R_assign rfl) rfl ?_
    refine KV (R_assign rfl) rfl ?_
    refine K_nil ?_
    refine Q_then ?_
    refine K_regionD (fin := true) (R := [0, 1, 2, 3, 4, 5, 6, 7, 8, 9, 10, 11]) (by kernel_rfl) mixed (.cons _ (.cons_cons _ (.cons_cons _ (.cons_cons _ (List.nil_sublist _))))) ?_
    refine D_val rfl rfl rfl (R_fieldAddr 1 fd30_1 rfl) ?_
    refine D_val rfl rfl rfl (R_loadO ty28 0 rfl rfl rfl rfl (fun _ => rfl) rfl) ?_
    refine D_val rfl rfl rfl (R_move rfl) ?_
    refine D_val rfl rfl rfl (R_move rfl) ?_
    refine D_val rfl rfl rfl (R_fieldAddr 1 fd2115_1 rfl) ?_
    refine D_val rfl rfl rfl (R_indexArr ar2113 ty3 rfl rfl ⟨by omega, by omega⟩) ?_
    refine D_val rfl rfl rfl (R_loadC ty3 1 rfl rfl (ch_cell c (by omega))) ?_
    refine D_call rfl rfl c2121 rfl ⟨⟨1, rfl⟩, ⟨2, rfl⟩, ⟨3, rfl⟩, trivial⟩ (ih ts[k] kids[k] (ps k) ([c.p, c.q].getD k 0) V (by have := sizes_ge (ts := ts) hkt; omega) (by omega) (hk k hkt hk') (hn3 _ (List.getElem_mem hkt)) ((hr k hk').mono hV) (((hk k hkt hk').isR.mem _).1 (hks k hk'))) ?_
    rintro _ V1 hv1 ⟨ds, rfl, hds⟩
    obtain ⟨e0, e1, e2, e3, rfl⟩ := hds.shape
    refine D_alloc rfl rfl rfl (A_buildSlice (vs := [.agg #[.int .i64 e0, .slice e1 e2 e3]]) sl28 ty30 z30 rfl rfl (by simp [Value.cells]) (by simp) rfl (by decide)) fun b36 => ?_
    refine D_append1 0 ap28 rfl rfl rfl rfl rfl rfl ⟨⟨0, rfl⟩, ⟨1, rfl⟩, ⟨2, rfl⟩, trivial⟩ rfl rfl ⟨by omega, by omega⟩ fun a37 k37 hn37 => ?_
    refine D_val rfl rfl rfl (R_fieldAddr 1 fd30_1 rfl) ?_
    refine D_lastStore ty28 1 rfl rfl rfl rfl rfl rfl rfl rfl ?_
    refine Q_block ?_
    refine Q_then ?_
    refine K_region ?_
    refine KV (R_add rfl rfl (by omega)) rfl ?_
    refine KV (R_move rfl) rfl ?_
    refine K_nil ?_
    refine Q_nextD (k + 1, V1, .slice a37 (k + 1) k37, xs ++ [.int .i64 e0, .slice e1 e2 e3]) ⟨hk', hV.trans hv1, by rw [List.take_succ_eq_append_getElem (by rw [trees_len]; exact hk'), trees_get kids _ k hk']; exact (hL.imp fun x cs h => h.mono hv1).snoc hds hds.two, _, _, rfl⟩ (by (try dsimp only); omega) ⟨rfl, trivial⟩ rfl rfl rfl
  ·
    have hk' : k = kids.length := by omega
    subst hk'
    refine K_exit ?_
    refine Q_then_exit ?_
    refine Q_then_exit ?_
    refine Q_block_exit ?_
    refine Q_then ?_
    refine K_seq ?_
    refine K_region ?_
    refine KV (R_loadW ty30 1 rfl rfl rfl rfl) rfl ?_
    refine K_storeW ty30 3 rfl rfl rfl rfl rfl rfl rfl ?_
    refine K_nil ?_
    refine Q_then ?_
    refine K_ret ?_
    refine KQ_pubrow rfl fun Hp hp hrow => ?_
    refine results_gen (rs := [.cell 4 35]) (vs := [_]) rfl ⟨⟨_, _, _, _, _, _, 2, rfl, rfl, ty30, (fun e => by cases e), rfl, rfl⟩, trivial⟩ ?_
    have hci : i64ok c.s := by simp only [i64ok]; omega
    have hlen := trees_len kids [c.p, c.q]
    rw [show (Tb.trees kids [c.p, c.q]).take kids.length = Tb.trees kids [c.p, c.q] from List.take_of_length_le (by omega)] at hL
    refine ⟨_, rfl, ?_⟩
    rw [htree]
    exact .of hci (by rw [hlen]; exact hrow.sl) (hL.imp fun x cs h => h.mono hp)
end Go.Proofs.X

namespace Go.Proofs.X
open Go Pal Go.Proofs
attribute [local irreducible] Pal.KO Pal.KC Pal.KQ Pal.KD
theorem z2101 : zeroOk Tryz.prog T2101 (.agg #[.slice none 0 0, .slice none 0 0, .slice none 0 0, .slice none 0 0]) := .of (by kernel_rfl)
theorem pl2101 : placesOk Tryz.prog T2101 [(0, 3), (3, 1)] := ⟨_, Tryz.underlying82, by kernel_rfl⟩
theorem c73 : callable Tryz.prog F73 = true := by kernel_rfl
set_option maxHeartbeats 1000000 in
theorem witness_spec (d : Dt) (l rk : List Int) (t : Tr) (w1 w2 w3 lv kv : Value) (H : View) (cs : List Value) (hb : d.ranks.length ≤ 1048576 ∧ d.acc.length ≤ 1048576 ∧ d.to.length ≤ 1048576 ∧ ∀ x ∈ d.to, x.length ≤ 1048576) (hd : RepDt H d w1 w2 w3) (hl : SI H lv l) (hk : SI H kv rk) (hb1 : l.length ≤ 1048576) (hb2 : rk.length ≤ 1048576) (hr : RepT H t cs) (hbt : t.size ≤ 1048576) :
    Sat Tryz.prog F2114 #[.agg #[w1, w2, w3], lv, kv, .agg cs.toArray] H (fun r H' => ∃ ds o E, r = .tuple #[.agg ds.toArray, .bool (Option.isSome o), .int .i64 E] ∧ RepT H' (o.getD (.node 0 [])) ds ∧ E = witErr d l rk t ∧ (E ≠ 0 → o = none ∧ ds = [.int .i64 0, .slice none 0 0]) ∧ (E = 0 → IsWit d l t o)) := by
  obtain ⟨ua1, uc1x, rfl⟩ := hd.r.shape
  obtain ⟨ua2, uc2x, rfl⟩ := hd.a.shape
  obtain ⟨ua3, uc3x, rfl⟩ := hd.t.shape
  obtain ⟨la, lc, rfl⟩ := hl.shape
  obtain ⟨ka, kc, rfl⟩ := hk.shape
  obtain ⟨x0, x1, x2, x3, rfl⟩ := hr.shape
  have hsl : (srcL l rk).length = rk.length := by simp [srcL]
  refine enterO (n := 96) (args := [.agg #[.slice ua1 d.ranks.length uc1x, .slice ua2 d.acc.length uc2x, .slice ua3 d.to.length uc3x], .slice la l.length lc, .slice ka rk.length kc, .agg #[.int .i64 x0, .slice x1 x2 x3]]) Tryz.func9 rfl rfl rfl fun w0 => ?_
  refine K_seq ?_
  refine K_region ?_
  refine KA (A_box rfl) rfl fun b4 => ?_
  refine KA (A_box rfl) rfl fun b7 => ?_
  refine KA (A_alloc z30) rfl fun b8 => ?_
  refine KV (R_assign rfl) rfl ?_
  refine KV (R_assign rfl) rfl ?_
  refine K_nil ?_
  refine Q_then ?_
  refine K_seq ?_
  refine K_seq ?_
  refine K_region ?_
  refine KV (R_loadW ty54 2 rfl rfl rfl rfl) rfl ?_
  refine K_call c63 rfl rfl (dcheck_spec d _ _ _ H hd hb) ?_
  rintro _ V1 hv1 rfl
  refine KV (R_assign rfl) rfl ?_
  refine K_nil ?_
  refine Q_then ?_
  refine K_seq ?_
  refine K_region ?_
  refine KV (R_move rfl) rfl ?_
  refine KV (R_cmp rfl rfl rfl) rfl ?_
  refine K_nil ?_
  refine Q_then ?_
  refine K_if rfl (fun h23 => ?_) (fun h23 => ?_)
  ·
    refine K_seq ?_
    refine K_region ?_
    refine KV (R_build z30 pl30 rfl rfl) rfl ?_
    refine KV (R_move rfl) rfl ?_
    refine K_storeW ty30 0 rfl rfl rfl rfl rfl rfl rfl ?_
    refine KV (R_assign rfl) rfl ?_
    refine KV (R_assign rfl) rfl ?_
    refine K_nil ?_
    refine Q_then ?_
    refine K_ret ?_
    refine Q_then_ret ?_
    refine results_gen (rs := [.cell 8 35, .tmp 9, .tmp 10]) (vs := [_, _, _]) rfl ⟨⟨_, _, _, _, _, _, 0, rfl, rfl, ty30, (fun e => by cases e), rfl, rfl⟩, ⟨rfl, ⟨rfl, trivial⟩⟩⟩ ?_
    refine ⟨_, none, _, rfl, repT_leaf _ 0 (by simp [i64ok]), ?_, fun _ => ⟨rfl, rfl⟩, fun h => absurd h (by first | exact h23 | decide)⟩
    unfold witErr; rw [if_pos h23]
  ·
    have hde : dtErr d = 0 := Decidable.not_not.1 h23
    have hok := DtOk.of hde
    refine K_skip ?_
    refine Q_then ?_
    refine K_seq ?_
    refine K_seq ?_
    refine K_region ?_
    refine KV (R_move rfl) rfl ?_
    refine K_call c72 rfl rfl (acheck_spec rk _ V1 (hk.mono hv1) (by omega)) ?_
    rintro _ V2 hv2 rfl
    refine KV (R_assign rfl) rfl ?_
    refine K_nil ?_
    refine Q_then ?_
    refine K_seq ?_
    refine K_region ?_
    refine KV (R_move rfl) rfl ?_
    refine KV (R_cmp rfl rfl rfl) rfl ?_
    refine K_nil ?_
    refine Q_then ?_
    refine K_if rfl (fun h29 => ?_) (fun h29 => ?_)
    ·
      refine K_seq ?_
      refine K_region ?_
      refine KV (R_build z30 pl30 rfl rfl) rfl ?_
      refine KV (R_move rfl) rfl ?_
      refine K_storeW ty30 0 rfl rfl rfl rfl rfl rfl rfl ?_
      refine KV (R_assign rfl) rfl ?_
      refine KV (R_assign rfl) rfl ?_
      refine K_nil ?_
      refine Q_then ?_
      refine K_ret ?_
      refine Q_then_ret ?_
      refine results_gen (rs := [.cell 8 35, .tmp 9, .tmp 10]) (vs := [_, _, _]) rfl ⟨⟨_, _, _, _, _, _, 0, rfl, rfl, ty30, (fun e => by cases e), rfl, rfl⟩, ⟨rfl, ⟨rfl, trivial⟩⟩⟩ ?_
      refine ⟨_, none, _, rfl, repT_leaf _ 0 (by simp [i64ok]), ?_, fun _ => ⟨rfl, rfl⟩, fun h => absurd h (by first | exact h29 | decide)⟩
      unfold witErr; rw [if_neg (not_not_intro hde), if_pos h29]
    ·
      have hre : ranksErr rk = 0 := Decidable.not_not.1 h29
      have hr2 : ∀ y ∈ rk, y ≤ 2 := fun y hy => by
        obtain ⟨i, hi, rfl⟩ := List.getElem_of_mem hy
        exact ((ranksErr_ok hre).2 i hi).2
      refine K_skip ?_
      refine Q_then ?_
      refine K_seq ?_
      refine K_seq ?_
      refine K_region ?_
      refine KV (R_move rfl) rfl ?_
      refine KV (R_fieldAddr 0 fd54_0 rfl) rfl ?_
      refine KV (R_loadO ty47 2 rfl rfl rfl rfl (fun _ => rfl) rfl) rfl ?_
      refine KV (R_move rfl) rfl ?_
      refine K_call c73 rfl rfl (relab_spec l d.ranks rk _ _ _ V2 (hl.mono (hv1.trans (hv2))) (hd.mono (hv1.trans (hv2))).r (hk.mono (hv1.trans (hv2))) (by omega)) ?_
      rintro _ V3 hv3 rfl
      refine KV (R_not rfl) rfl ?_
      refine K_nil ?_
      refine Q_then ?_
      refine K_ifB rfl (fun h37 => ?_) (fun h37 => ?_)
      ·
        have hmf : mapsM l d.ranks rk = false := by simpa using h37
        refine K_seq ?_
        refine K_region ?_
        refine KV (R_build z30 pl30 rfl rfl) rfl ?_
        refine K_storeW ty30 0 rfl rfl rfl rfl rfl rfl rfl ?_
        refine KV (R_assign rfl) rfl ?_
        refine KV (R_assign rfl) rfl ?_
        refine K_nil ?_
        refine Q_then ?_
        refine K_ret ?_
        refine Q_then_ret ?_
        refine results_gen (rs := [.cell 8 35, .tmp 9, .tmp 10]) (vs := [_, _, _]) rfl ⟨⟨_, _, _, _, _, _, 0, rfl, rfl, ty30, (fun e => by cases e), rfl, rfl⟩, ⟨rfl, ⟨rfl, trivial⟩⟩⟩ ?_
        refine ⟨_, none, _, rfl, repT_leaf _ 0 (by simp [i64ok]), ?_, fun _ => ⟨rfl, rfl⟩, fun h => absurd h (by first | exact (by decide) | decide)⟩
        unfold witErr; rw [if_neg (not_not_intro hde), if_neg (not_not_intro hre), if_neg (by rw [hmf]; decide)]
      ·
        have hmm : mapsM l d.ranks rk = true := by simpa using h37
        obtain ⟨hm1, hm2⟩ := mapsM_iff.1 hmm
        refine K_skip ?_
        refine Q_then ?_
        refine K_seq ?_
        refine K_seq ?_
        refine K_region ?_
        refine KV (R_move rfl) rfl ?_
        refine KV (R_loadW ty30 1 rfl rfl rfl rfl) rfl ?_
        refine K_call c98 rfl rfl (pvalid_spec rk _ t V3 _ hb2 (by omega) (hr.mono (hv1.trans (hv2.trans (hv3)))) (hk.mono (hv1.trans (hv2.trans (hv3))))) ?_
        rintro _ V4 hv4 rfl
        refine KV (R_assign rfl) rfl ?_
        refine K_nil ?_
        refine Q_then ?_
        refine K_seq ?_
        refine K_region ?_
        refine KV (R_move rfl) rfl ?_
        refine KV (R_cmp rfl rfl rfl) rfl ?_
        refine K_nil ?_
        refine Q_then ?_
        refine K_if rfl (fun h43 => ?_) (fun h43 => ?_)
        ·
          refine K_seq ?_
          refine K_region ?_
          refine KV (R_build z30 pl30 rfl rfl) rfl ?_
          refine KV (R_move rfl) rfl ?_
          refine K_storeW ty30 0 rfl rfl rfl rfl rfl rfl rfl ?_
          refine KV (R_assign rfl) rfl ?_
          refine KV (R_assign rfl) rfl ?_
          refine K_nil ?_
          refine Q_then ?_
          refine K_ret ?_
          refine Q_then_ret ?_
          refine results_gen (rs := [.cell 8 35, .tmp 9, .tmp 10]) (vs := [_, _, _]) rfl ⟨⟨_, _, _, _, _, _, 0, rfl, rfl, ty30, (fun e => by cases e), rfl, rfl⟩, ⟨rfl, ⟨rfl, trivial⟩⟩⟩ ?_
          refine ⟨_, none, _, rfl, repT_leaf _ 0 (by simp [i64ok]), ?_, fun _ => ⟨rfl, rfl⟩, fun h => absurd h (by first | exact h43 | decide)⟩
          unfold witErr; rw [if_neg (not_not_intro hde), if_neg (not_not_intro hre), if_pos hmm]
        ·
          have hve : validErr rk t = 0 := Decidable.not_not.1 h43
          have hne := (validErr_zero hve).2
          have hE0 : witErr d l rk t = 0 := by unfold witErr; rw [if_neg (not_not_intro hde), if_neg (not_not_intro hre), if_pos hmm]; exact hve
          refine K_skip ?_
          refine Q_then ?_
          refine K_seq ?_
          refine K_regionD (fin := false) (R := [0, 1, 2, 3, 4, 5, 6]) (by kernel_rfl) mixed (.cons_cons _ (.cons_cons _ (.cons_cons _ (List.nil_sublist _)))) ?_
          refine D_val rfl rfl rfl (R_loadW ty54 2 rfl rfl rfl rfl) ?_
          refine D_val rfl rfl rfl (R_move rfl) ?_
          refine D_val rfl rfl rfl (R_len sl47 rfl) ?_
          refine D_makeSlice rfl rfl rfl ⟨⟨0, rfl⟩, ⟨1, rfl⟩, ⟨2, rfl⟩, trivial⟩ (A_makeSlice ap44 z25 ty25 rfl rfl (by omega) (by omega)) fun b49 => ?_
          refine D_val rfl rfl rfl (R_build z2101 pl2101 rfl rfl) ?_
          refine D_alloc rfl rfl rfl (A_box rfl) fun b51 => ?_
          refine D_val rfl rfl rfl (R_assign rfl) ?_
          refine D_done ?_
          rw [show madeCells (Value.slice none 0 0).cells (rk.length * 1) = headsP (List.replicate rk.length nilP) from headsP_made _]
          refine KQ_nilmany T3 rk.length ?_
          skip
          refine Q_then ?_
          refine K_seq ?_
          refine K_seq ?_
          refine K_region ?_
          refine KV (R_move rfl) rfl ?_
          refine KV (R_len sl25 rfl) rfl ?_
          refine KV (R_move rfl) rfl ?_
          refine K_nil ?_
          refine Q_then ?_
          refine K_block ?_
          refine K_loopD (G := Nat × (List (Rl × Value))) [15, 16, 54, 55, 56, 57, 58, 59, 60, 61, 62, 63, 64, 65, 66, 67, 68, 69, 70, 71, 72, 73, 74, 75] (fun g => [(54, .int .i64 (g.1 : Int))]) (fun hl g => ((hl.set 0 (many (rowsFrom T3 g.2))).set 2 (blk b49 (.cells (headsP g.2) T25 (0, 0))))) (fun g => V4) (fun g => (g.1 ≤ l.length) ∧ (SrcOk l rk.length g.1 g.2)) (fun g => l.length - g.1) (0, List.replicate rk.length nilP) ⟨Nat.zero_le _, SrcOk.nil _ _⟩ ⟨rfl, trivial⟩ (by simp only [args0, Nat.reduceAdd, del, memN, beqN, Nat.reduceBEq, cond_true, cond_false]; rfl) rfl rfl ?_
          rintro ⟨k, ps⟩ ⟨hk0, hSo⟩
          dsimp only at hk0 hSo
          dsimp only [List.set, List.cons_append, List.nil_append]
          refine K_seq ?_
          refine K_region ?_
          refine KV (R_cmp rfl rfl rfl) rfl ?_
          refine K_nil ?_
          refine Q_then ?_
          refine K_seq ?_
          refine K_if rfl (fun h55 => ?_) (fun h55 => ?_)
          ·
            have hk' : k < l.length := by omega
            obtain ⟨lb, lo, hle0, hlx⟩ := (hl.mono (hv1.trans (hv2.trans (hv3.trans (hv4))))).get hk'
            cases hle0
            have hlk := (hm2 k hk' (by omega)).1
            have hsn : l[k].toNat < ps.length := by rw [hSo.len]; omega
            have hlg : l.getD k 0 = ((l[k].toNat : Nat) : Int) := by rw [show l.getD k 0 = l[k] by simp [List.getD, hk']]; omega
            have hal : ps[l[k].toNat].1.args.length ≤ k := by rw [hSo.row _ hsn]; exact srcTo_len _ _ _
            refine K_skip ?_
            refine Q_then ?_
            refine K_seq ?_
            refine K_block ?_
            refine K_seq ?_
            refine K_region ?_
            refine KV (R_move rfl) rfl ?_
            refine KV (R_indexN sl25 ty3 rfl rfl (by omega)) rfl ?_
            refine KV (R_loadH ty3 rfl (hlx) rfl (fun _ => rfl) rfl) rfl ?_
            refine KV (R_assign rfl) rfl ?_
            refine KV (R_assign rfl) rfl ?_
            refine K_nil ?_
            refine Q_then ?_
            refine KC_front 0 rfl ?_
            try dsimp only [List.eraseIdx]
            refine KC_takeAt hsn ?_
            refine KC_shape 0 rfl ?_
            rintro ⟨xa, xc, hxe⟩
            rw [hxe]
            refine K_regionD (fin := true) (R := [0, 1, 2, 3, 4, 5, 6, 7, 8, 9, 10, 11, 12, 13, 14, 15, 16]) (by kernel_rfl) mixed (.cons _ (.cons_cons _ (.cons_cons _ (.cons_cons _ (.cons_cons _ (.cons_cons _ (.cons_cons _ (List.nil_sublist _)))))))) ?_
            refine D_val rfl rfl rfl (R_move rfl) ?_
            refine D_val rfl rfl rfl (R_nilCheck rfl) ?_
            refine D_val rfl rfl rfl (R_fieldAddr 3 fd2101_1 rfl) ?_
            refine D_val rfl rfl rfl (R_loadO ty44 1 rfl rfl rfl rfl (fun _ => rfl) rfl) ?_
            refine D_val rfl rfl rfl (R_move rfl) ?_
            refine D_val rfl rfl rfl (R_move rfl) ?_
            refine D_val rfl rfl rfl (R_nilCheck rfl) ?_
            refine D_val rfl rfl rfl (R_fieldAddr 3 fd2101_1 rfl) ?_
            refine D_val rfl rfl rfl (R_loadO ty44 1 rfl rfl rfl rfl (fun _ => rfl) rfl) ?_
            refine D_val rfl rfl rfl (R_move rfl) ?_
            refine D_val rfl rfl rfl (R_index sl44 ty25 rfl rfl ⟨hlk.1, hlk.2⟩) ?_
            refine D_val rfl rfl rfl (R_loadC ty25 2 rfl rfl ((headsP_get hsn (by omega)).trans (congrArg some hxe))) ?_
            refine D_val rfl rfl rfl (R_move rfl) ?_
            refine D_alloc rfl rfl rfl (A_buildSlice (vs := [.int .i64 (k : Int)]) sl25 ty3 z3 rfl rfl (by simp [Value.cells]) (by simp) rfl (by decide)) fun b72 => ?_
            refine D_append1 0 ap25 rfl rfl rfl rfl rfl rfl ⟨⟨0, rfl⟩, ⟨1, rfl⟩, ⟨2, rfl⟩, ⟨3, rfl⟩, ⟨4, rfl⟩, ⟨5, rfl⟩, trivial⟩ rfl rfl ⟨by omega, by omega⟩ fun a73 k73 hn73 => ?_
            refine D_val rfl rfl rfl (R_index sl44 ty25 rfl rfl ⟨hlk.1, hlk.2⟩) ?_
            refine D_lastStoreE ty25 3 rfl rfl rfl rfl rfl rfl (by rw [headsP_size]; show _ + 1 ≤ _; omega) rfl (headsP_put (r := ⟨0, ps[l[k].toNat].1.args ++ [(k : Int)], 0⟩) hsn (by omega)) ?_
            refine KQ_front 1 rfl ?_
            try dsimp only [List.eraseIdx]
            refine KQ_front 1 rfl ?_
            try dsimp only [List.eraseIdx]
            refine KQ_putrowE (ps.take l[k].toNat) (ps.drop (l[k].toNat + 1)) ((⟨0, ps[l[k].toNat].1.args ++ [(k : Int)], 0⟩ : Rl), Value.slice a73 (ps[l[k].toNat].1.args.length + 1) k73) (show row (.slice a73 (ps[l[k].toNat].1.args.length + 1) k73) T3 1 (ps[l[k].toNat].1.args.length + 1) (ints ps[l[k].toNat].1.args ++ [.int .i64 (k : Int)]) = row (.slice a73 (ps[l[k].toNat].1.args.length + 1) k73) T3 1 (ps[l[k].toNat].1.args ++ [(k : Int)]).length (ints (ps[l[k].toNat].1.args ++ [(k : Int)])) by rw [List.length_append, ints_snoc]; rfl) ?_
            skip
            refine Q_block ?_
            refine Q_then ?_
            refine K_region ?_
            refine KV (R_add rfl rfl (by omega)) rfl ?_
            refine KV (R_move rfl) rfl ?_
            refine K_nil ?_
            refine Q_nextD (k + 1, ps.take l[k].toNat ++ ((⟨0, ps[l[k].toNat].1.args ++ [(k : Int)], 0⟩ : Rl), Value.slice a73 (ps[l[k].toNat].1.args.length + 1) k73) :: ps.drop (l[k].toNat + 1)) ⟨hk', hSo.step hsn hlg _⟩ (by (try dsimp only); omega) ⟨rfl, trivial⟩ rfl rfl rfl
          ·
            have hk' : k = l.length := by omega
            subst hk'
            refine K_exit ?_
            refine Q_then_exit ?_
            refine Q_then_exit ?_
            refine Q_block_exit ?_
            refine Q_then ?_
            refine K_seq ?_
            refine KC_front 0 rfl ?_
            try dsimp only [List.eraseIdx]
            refine KC_pubmany (hSo.bounds (by omega)) fun W1 hw1 hrv => ?_
            skip
            refine KC_front 1 rfl ?_
            try dsimp only [List.eraseIdx]
            refine KC_pubF fun W2 hw2 hb49 => ?_
            skip
            refine KC_front 0 rfl ?_
            try dsimp only [List.eraseIdx]
            refine KC_pubF fun W3 hw3 hb51 => ?_
            skip
            have hvW : VLe H W3 := (hv1.trans (hv2.trans (hv3.trans (hv4)))).trans (hw1.trans (hw2.trans hw3))
            have hSSI := hSo.ssi (cap := rk.length) ((At.of hb49).mono hw3) (fun p hp => (hrv p hp).mono (hw2.trans hw3))
            rw [hsl] at hSSI
            have hSSI : SSI W3 (slc rk.length b49) (srcL l rk) := hSSI
            have hS51 : At W3 b51 0 [.slice ua1 d.ranks.length uc1x, .slice ua2 d.acc.length uc2x, .slice ua3 d.to.length uc3x, slc rk.length b49] := At.of hb51
            have hn512 := hok.n
            refine K_region ?_
            refine KV (R_move rfl) rfl ?_
            refine KV (R_loadW ty30 1 rfl rfl rfl rfl) rfl ?_
            refine K_call c2119 rfl rfl (search_spec d l rk hok hr2 hmm hb1 t.size t W3 _ b51 _ _ _ _ (Nat.le_refl _) (by omega) (hr.mono hvW) hne (hd.mono hvW) hS51 hSSI) ?_
            rintro _ V5 hv5 ⟨tb, f, kids, rfl, hT, hBd, hTS⟩
            refine KV (R_assign rfl) rfl ?_
            refine K_nil ?_
            refine Q_then ?_
            refine K_seq ?_
            refine K_seq ?_
            refine K_region ?_
            refine KV (R_move rfl) rfl ?_
            refine K_call c2120 rfl rfl (wreached_spec f [] kids tb d.acc.length V5 hT hBd (by omega)) ?_
            rintro _ V6 hv6 ⟨R, hIR, hSR, hRl⟩
            obtain ⟨Ra, Rc, rfl⟩ := hSR.shape
            have hTB := hTS R hIR
            have hG := hTB.good hr2 hne
            have hvX := hvW.trans (hv5.trans hv6)
            refine KV (R_len sl25 rfl) rfl ?_
            refine KV (R_move rfl) rfl ?_
            refine K_nil ?_
            refine Q_then ?_
            refine K_block ?_
            refine K_loopD (G := Nat) [9, 10, 19, 82, 83, 84, 85, 86, 87, 88, 89, 90, 91, 92, 93, 94] (fun g => [(82, .int .i64 (g : Int))]) (fun hl g => hl) (fun g => V6) (fun g => (g ≤ R.length) ∧ (∀ i (h : i < R.length), i < g → d.acc.getD (R[i]).toNat false = false)) (fun g => R.length - g) (0 : Nat) ⟨Nat.zero_le _, fun i h hi => absurd hi (Nat.not_lt_zero _)⟩ ⟨rfl, trivial⟩ (by simp only [args0, Nat.reduceAdd, del, memN, beqN, Nat.reduceBEq, cond_true, cond_false]; rfl) rfl rfl ?_
            rintro j ⟨hj, hno⟩
            try dsimp only at hj
            try dsimp only at hno
            dsimp only [List.set, List.cons_append, List.nil_append]
            refine K_seq ?_
            refine K_region ?_
            refine KV (R_cmp rfl rfl rfl) rfl ?_
            refine K_nil ?_
            refine Q_then ?_
            refine K_seq ?_
            refine K_if rfl (fun h83 => ?_) (fun h83 => ?_)
            ·
              have hj' : j < R.length := by omega
              obtain ⟨Rb, Ro, hRe, hRx⟩ := hSR.get hj'
              cases hRe
              have hRb := hBd _ ((hIR.mem _).1 (List.getElem_mem hj'))
              have hRl2 : R[j].toNat < d.acc.length := by omega
              obtain ⟨ab, ao, hae, hax⟩ := (SB.mono hd.a hvX).get hRl2
              cases hae
              have hag : d.acc.getD R[j].toNat false = d.acc[R[j].toNat] := by simp [List.getD, hRl2]
              refine K_skip ?_
              refine Q_then ?_
              refine K_seq ?_
              refine K_block ?_
              refine K_seq ?_
              refine K_region ?_
              refine KV (R_indexN sl25 ty3 rfl rfl (by omega)) rfl ?_
              refine KV (R_loadH ty3 rfl (hRx) rfl (fun _ => rfl) rfl) rfl ?_
              refine KV (R_assign rfl) rfl ?_
              refine K_nil ?_
              refine Q_then ?_
              refine K_seq ?_
              refine K_region ?_
              refine KV (R_fieldAddr 1 fd54_1 rfl) rfl ?_
              refine KV (R_loadO ty52 2 rfl rfl rfl rfl (fun _ => rfl) rfl) rfl ?_
              refine KV (R_move rfl) rfl ?_
              refine KV (R_index sl52 ty4 rfl rfl ⟨hRb.1, hRb.2⟩) rfl ?_
              refine KV (R_loadH ty4 rfl (hax) rfl (fun _ => rfl) rfl) rfl ?_
              refine K_nil ?_
              refine Q_then ?_
              refine K_ifB rfl (fun h90 => ?_) (fun h90 => ?_)
              ·
                have hax2 : d.acc.getD R[j].toNat false = true := hag.trans h90
                refine K_seq ?_
                refine K_region ?_
                refine KV (R_move rfl) rfl ?_
                refine KV (R_move rfl) rfl ?_
                refine K_call c2121 rfl rfl (wtree_spec d l rk hr2 hb1 t.size t (.mk f R kids) tb R[j] V6 (Nat.le_refl _) (by omega) hTB hne (hT.mono hv6).setR ((hIR.mem _).1 (List.getElem_mem hj'))) ?_
                rintro _ V7 hv7 ⟨es, rfl, hes⟩
                obtain ⟨e0, e1, e2, e3, rfl⟩ := hes.shape
                refine K_storeW ty30 0 rfl rfl rfl rfl rfl rfl rfl ?_
                refine KV (R_assign rfl) rfl ?_
                refine KV (R_assign rfl) rfl ?_
                refine K_nil ?_
                refine Q_then ?_
                refine K_ret ?_
                refine Q_block_ret ?_
                refine Q_then_ret ?_
                refine Q_then_ret ?_
                refine Q_block_ret ?_
                refine Q_then_ret ?_
                refine results_gen (rs := [.cell 8 35, .tmp 9, .tmp 10]) (vs := [_, _, _]) rfl ⟨⟨_, _, _, _, _, _, 0, rfl, rfl, ty30, (fun e => by cases e), rfl, rfl⟩, ⟨rfl, ⟨rfl, trivial⟩⟩⟩ ?_
                exact ⟨_, some _, 0, rfl, hes, hE0.symm, fun h => absurd rfl h, fun _ => wit_some hG hj' hno hax2⟩
              ·
                have hax2 : d.acc.getD R[j].toNat false = false := hag.trans h90
                refine K_skip ?_
                refine Q_block ?_
                refine Q_then ?_
                refine K_region ?_
                refine KV (R_add rfl rfl (by omega)) rfl ?_
                refine KV (R_move rfl) rfl ?_
                refine K_nil ?_
                refine Q_nextD ((j + 1)) ⟨hj', fun i h hi => by
                  by_cases e : i = j
                  · subst e; exact hax2
                  · exact hno i h (by omega)⟩ (by (try dsimp only); omega) ⟨rfl, trivial⟩ rfl rfl rfl
            ·
              have hj' : j = R.length := by omega
              subst hj'
              refine K_exit ?_
              refine Q_then_exit ?_
              refine Q_then_exit ?_
              refine Q_block_exit ?_
              refine Q_then ?_
              refine K_seq ?_
              refine K_region ?_
              refine KV (R_build z30 pl30 rfl rfl) rfl ?_
              refine K_storeW ty30 0 rfl rfl rfl rfl rfl rfl rfl ?_
              refine KV (R_assign rfl) rfl ?_
              refine KV (R_assign rfl) rfl ?_
              refine K_nil ?_
              refine Q_then ?_
              refine K_ret ?_
              refine results_gen (rs := [.cell 8 35, .tmp 9, .tmp 10]) (vs := [_, _, _]) rfl ⟨⟨_, _, _, _, _, _, 0, rfl, rfl, ty30, (fun e => by cases e), rfl, rfl⟩, ⟨rfl, ⟨rfl, trivial⟩⟩⟩ ?_
              exact ⟨_, none, 0, rfl, repT_leaf _ 0 (by simp [i64ok]), hE0.symm, fun h => absurd rfl h, fun _ => wit_none hG (fun i h => hno i h h)⟩
end Go.Proofs.X

namespace Go.Proofs.X
open Go Pal Go.Proofs
attribute [local irreducible] Pal.KO Pal.KC Pal.KQ Pal.KD
end Go.Proofs.X

namespace Go.Proofs.X
open Go Pal Go.Proofs
attribute [local irreducible] Pal.KO Pal.KC Pal.KQ Pal.KD
end Go.Proofs.X

namespace Go.Proofs.X
open Go Pal Go.Proofs
attribute [local irreducible] Pal.KO Pal.KC Pal.KQ Pal.KD

end Go.Proofs.X

namespace Go.Proofs.X
open Go Pal Go.Proofs
attribute [local irreducible] Pal.KO Pal.KC Pal.KQ Pal.KD
theorem c26 : callable Tryz.prog F26 = true := by kernel_rfl
theorem c28 : callable Tryz.prog F28 = true := by kernel_rfl
theorem c29 : callable Tryz.prog F29 = true := by kernel_rfl
theorem c37 : callable Tryz.prog F37 = true := by kernel_rfl
theorem c39 : callable Tryz.prog F39 = true := by kernel_rfl
theorem c2114 : callable Tryz.prog F2114 = true := by kernel_rfl
end Go.Proofs.X

namespace Go.Proofs.X
open Go Pal Go.Proofs
attribute [local irreducible] Pal.KO Pal.KC Pal.KQ Pal.KD
theorem z0 : zeroOk Tryz.prog T0 (.tuple #[]) := .of (by kernel_rfl)
theorem z1 : zeroOk Tryz.prog T1 (.nilFunc) := .of (by kernel_rfl)
theorem z2 : zeroOk Tryz.prog T2 (.int .i64 0) := .of (by kernel_rfl)
theorem c19 : callable Tryz.prog F19 = true := by kernel_rfl
theorem c27 : callable Tryz.prog F27 = true := by kernel_rfl
theorem c2023 : callable Tryz.prog F2023 = true := by kernel_rfl
theorem c2118 : callable Tryz.prog F2118 = true := by kernel_rfl
set_option maxHeartbeats 1000000 in
theorem project_spec (d : Dt) (l rk : List Int) (hde : dtErr d = 0) (hn5 : d.acc.length ≤ 5) (hr8 : d.ranks.length ≤ 8) (hkr : ranksErr rk = 0) (hk8 : rk.length ≤ 8) (hll : l.length ≤ 1048576) (w1 w2 w3 lv kv : Value) (H : View) (hb : d.ranks.length ≤ 1048576 ∧ d.acc.length ≤ 1048576 ∧ d.to.length ≤ 1048576 ∧ ∀ x ∈ d.to, x.length ≤ 1048576) (hd : RepDt H d w1 w2 w3) (hl : SI H lv l) (hk : SI H kv rk) :
    Sat Tryz.prog F2118 #[.agg #[w1, w2, w3], lv, kv, .int .i64 64] H (fun r H' => ∃ v1 v2 v3, r = .tuple #[.agg #[v1, v2, v3], .int .i64 (if mapsM l d.ranks rk = true then 0 else 3)] ∧ RepDt H' (if mapsM l d.ranks rk = true then projD d l rk else ⟨[], [], []⟩) v1 v2 v3) := by
  obtain ⟨ua1, uc1x, rfl⟩ := hd.r.shape
  obtain ⟨ua2, uc2x, rfl⟩ := hd.a.shape
  obtain ⟨ua3, uc3x, rfl⟩ := hd.t.shape
  obtain ⟨la, lc, rfl⟩ := hl.shape
  obtain ⟨ka, kc, rfl⟩ := hk.shape
  have hae := ntaM_err (DtOk.of hde) hn5 hr8
  refine enterO (n := 38) (args := [.agg #[.slice ua1 d.ranks.length uc1x, .slice ua2 d.acc.length uc2x, .slice ua3 d.to.length uc3x], .slice la l.length lc, .slice ka rk.length kc, .int .i64 64]) Tryz.func28 rfl rfl rfl fun w0 => ?_
  refine K_seq ?_
  refine K_region ?_
  refine KA (A_box rfl) rfl fun b4 => ?_
  refine KA (A_alloc z54) rfl fun b8 => ?_
  refine KV (R_assign rfl) rfl ?_
  refine K_nil ?_
  refine Q_then ?_
  refine K_seq ?_
  refine K_region ?_
  refine KV (R_loadW ty54 1 rfl rfl rfl rfl) rfl ?_
  refine K_call c27 rfl rfl (tonta_spec d hb (fun _ => ⟨hn5, hr8⟩) _ _ _ H hd) ?_
  rintro _ V1 hv1 ⟨p1, p2, p3, rfl, hp⟩
  rw [if_neg (not_not_intro hde)] at hp ⊢
  rw [hde]
  obtain ⟨yr, yrc, rfl⟩ := hp.r.shape
  obtain ⟨yf, yfc, rfl⟩ := hp.f.shape
  obtain ⟨yu, yuc, rfl⟩ := hp.ushape
  refine KV (R_move rfl) rfl ?_
  refine KV (R_extract rfl rfl) rfl ?_
  refine KV (R_extract rfl rfl) rfl ?_
  refine KA (A_alloc z50) rfl fun b10 => ?_
  refine K_storeW ty50 0 rfl rfl rfl rfl rfl rfl rfl ?_
  refine KV (R_assign rfl) rfl ?_
  refine K_nil ?_
  refine Q_then ?_
  refine K_seq ?_
  refine K_seq ?_
  refine K_region ?_
  refine KV (R_move rfl) rfl ?_
  refine KV (R_cmp rfl rfl rfl) rfl ?_
  refine K_nil ?_
  refine Q_then ?_
  refine K_if rfl (fun h19 => ?_) (fun h19 => ?_)
  ·
    exact absurd rfl h19
  ·
    refine K_skip ?_
    refine Q_then ?_
    refine K_seq ?_
    refine K_region ?_
    refine KV (R_loadW ty50 0 rfl rfl rfl rfl) rfl ?_
    refine KV (R_move rfl) rfl ?_
    refine KV (R_move rfl) rfl ?_
    refine K_call c2023 rfl rfl (relabelN_spec (ntaM d) l rk _ _ _ _ _ V1 hp (hl.mono hv1) (hk.mono hv1) hll (by omega)) ?_
    rintro _ V2 hv2 ⟨q1, q2, q3, rfl, hq⟩
    obtain ⟨xr, xrc, rfl⟩ := hq.r.shape
    obtain ⟨xf, xfc, rfl⟩ := hq.f.shape
    obtain ⟨xu, xuc, rfl⟩ := hq.ushape
    refine KV (R_move rfl) rfl ?_
    refine KV (R_extract rfl rfl) rfl ?_
    refine KV (R_extract rfl rfl) rfl ?_
    refine KA (A_alloc z50) rfl fun b12 => ?_
    refine K_storeW ty50 0 rfl rfl rfl rfl rfl rfl rfl ?_
    refine KV (R_assign rfl) rfl ?_
    refine K_nil ?_
    refine Q_then ?_
    refine K_seq ?_
    refine K_seq ?_
    by_cases hm : mapsM l d.ranks rk = true
    ·
      have hP : ProjOk d l rk := ⟨hde, hn5, hr8, hkr, hk8, hm⟩
      have hE : relErr (ntaM d) l rk = 0 := by
        unfold relErr turnErr
        rw [if_neg (not_not_intro hae), if_neg (not_not_intro hkr)]
        exact if_pos hm
      simp only [hE, errAu_ok rfl] at hq ⊢
      have hq : RepAu V2 (projA d l rk) _ _ _ := hq
      refine K_region ?_
      refine KV (R_move rfl) rfl ?_
      refine KV (R_cmp rfl rfl rfl) rfl ?_
      refine K_nil ?_
      refine Q_then ?_
      refine K_if rfl (fun h30 => ?_) (fun h30 => ?_)
      ·
        exact absurd rfl h30
      ·
        refine K_skip ?_
        refine Q_then ?_
        refine K_seq ?_
        refine K_region ?_
        refine KV (R_loadW ty50 0 rfl rfl rfl rfl) rfl ?_
        refine KV (R_move rfl) rfl ?_
        refine K_call c18 rfl rfl (fromNTA_spec (projA d l rk) 64 _ _ _ V2 hq) ?_
        rintro _ V3 hv3 ⟨d1, d2, d3, rfl, hD⟩
        obtain ⟨st, hc1, hc2⟩ := proj_cons hP
        rw [hc1] at hD ⊢
        dsimp only at hD ⊢
        rw [hc2] at hD
        obtain ⟨za1, zc1x, rfl⟩ := hD.r.shape
        obtain ⟨za2, zc2x, rfl⟩ := hD.a.shape
        obtain ⟨za3, zc3x, rfl⟩ := hD.t.shape
        refine KV (R_extract rfl rfl) rfl ?_
        refine KV (R_extract rfl rfl) rfl ?_
        refine K_storeW ty54 2 rfl rfl rfl rfl rfl rfl rfl ?_
        refine KV (R_assign rfl) rfl ?_
        refine K_nil ?_
        refine Q_then ?_
        refine K_ret ?_
        refine results_gen (rs := [.cell 8 41, .tmp 9]) (vs := [_, _]) rfl ⟨⟨_, _, _, _, _, _, 2, rfl, rfl, ty54, (fun e => by cases e), rfl, rfl⟩, ⟨rfl, trivial⟩⟩ ?_
        rw [if_pos hm, if_pos hm]
        exact ⟨_, _, _, rfl, hD⟩
    ·
      have hE : relErr (ntaM d) l rk = 3 := by
        unfold relErr turnErr
        rw [if_neg (not_not_intro hae), if_neg (not_not_intro hkr)]
        exact if_neg hm
      simp only [hE, errAu_no (show (3 : Int) ≠ 0 by decide)] at hq ⊢
      refine K_region ?_
      refine KV (R_move rfl) rfl ?_
      refine KV (R_cmp rfl rfl rfl) rfl ?_
      refine K_nil ?_
      refine Q_then ?_
      refine K_if rfl (fun h30 => ?_) (fun h30 => ?_)
      ·
        refine K_seq ?_
        refine K_region ?_
        refine KV (R_build z54 pl54 rfl rfl) rfl ?_
        refine KV (R_move rfl) rfl ?_
        refine K_storeW ty54 2 rfl rfl rfl rfl rfl rfl rfl ?_
        refine KV (R_assign rfl) rfl ?_
        refine K_nil ?_
        refine Q_then ?_
        refine K_ret ?_
        refine Q_then_ret ?_
        refine results_gen (rs := [.cell 8 41, .tmp 9]) (vs := [_, _]) rfl ⟨⟨_, _, _, _, _, _, 2, rfl, rfl, ty54, (fun e => by cases e), rfl, rfl⟩, ⟨rfl, trivial⟩⟩ ?_
        rw [if_neg hm, if_neg hm]
        exact ⟨_, _, _, rfl, RepDt.nil _⟩
      ·
        exact absurd (by decide) h30

set_option maxHeartbeats 1000000 in
theorem project_law (d : Dt) (l rk : List Int) (t : Tr) (v1 v2 v3 lv kv : Value) (H : View) (cs : List Value) (hT : Tab H) (hd : RepDt H d v1 v2 v3) (hb : d.ranks.length ≤ 1048576 ∧ d.acc.length ≤ 1048576 ∧ d.to.length ≤ 1048576 ∧ ∀ x ∈ d.to, x.length ≤ 1048576) (h1 : SI H lv l) (h2 : SI H kv rk) (hb1 : l.length ≤ 1048576) (hb2 : rk.length ≤ 1048576) (hr : RepT H t cs) (hbt : t.size ≤ 1048576) :
    Sat Tryz.prog F2113 #[.agg #[v1, v2, v3], lv, kv, .agg cs.toArray] H (fun v _ => v = .bool true) := by
  obtain ⟨x0, x1, x2, x3, rfl⟩ := hr.shape
  obtain ⟨a1, k1, rfl⟩ := h1.shape
  obtain ⟨a2, k2, rfl⟩ := h2.shape
  obtain ⟨ua1, uc1x, rfl⟩ := hd.r.shape
  obtain ⟨ua2, uc2x, rfl⟩ := hd.a.shape
  obtain ⟨ua3, uc3x, rfl⟩ := hd.t.shape
  refine enterO (n := 104) (args := [.agg #[.slice ua1 d.ranks.length uc1x, .slice ua2 d.acc.length uc2x, .slice ua3 d.to.length uc3x], .slice a1 l.length k1, .slice a2 rk.length k2, .agg #[.int .i64 x0, .slice x1 x2 x3]]) Tryz.func5 rfl rfl rfl fun w0 => ?_
  refine K_seq ?_
  refine K_region ?_
  refine KA (A_box rfl) rfl fun b4 => ?_
  refine KA (A_box rfl) rfl fun b7 => ?_
  refine KV (R_assign rfl) rfl ?_
  refine K_nil ?_
  refine Q_then ?_
  refine K_seq ?_
  refine K_seq ?_
  refine K_region ?_
  refine K_call c7 rfl rfl (known_spec H hT) ?_
  rintro _ V1 hv1 rfl
  refine KV (R_not rfl) rfl ?_
  refine KV (R_move rfl) rfl ?_
  refine K_splitB ?_ ?_
  ·
    intro h16
    cases h16
  ·
    intro h16
    refine K_gyes rfl rfl ?_
    refine KV (R_loadW ty63 1 rfl rfl rfl rfl) rfl ?_
    refine K_gyes rfl rfl ?_
    refine K_call c26 rfl rfl (small_spec d _ _ _ V1 (hd.mono hv1) hb) ?_
    rintro _ V2 hv2 ⟨b19, rfl, hsml⟩
    refine K_gyes rfl rfl ?_
    refine KV (R_not rfl) rfl ?_
    refine KV (R_pickF rfl rfl) rfl ?_
    refine KV (R_move rfl) rfl ?_
    refine K_splitB ?_ ?_
    ·
      intro h21
      refine K_gno rfl rfl rfl rfl ?_
      refine K_gno rfl rfl rfl rfl ?_
      refine K_gno rfl rfl rfl rfl ?_
      refine KV (R_pickT rfl rfl) rfl ?_
      refine KV (R_move rfl) rfl ?_
      refine K_gno rfl rfl rfl rfl ?_
      refine K_gno rfl rfl rfl rfl ?_
      refine K_gno rfl rfl rfl rfl ?_
      refine KV (R_pickT rfl rfl) rfl ?_
      refine KV (R_move rfl) rfl ?_
      refine K_gno rfl rfl rfl rfl ?_
      refine K_gno rfl rfl rfl rfl ?_
      refine K_gno rfl rfl rfl rfl ?_
      refine KV (R_pickT rfl rfl) rfl ?_
      refine KV (R_move rfl) rfl ?_
      refine K_gno rfl rfl rfl rfl ?_
      refine K_gno rfl rfl rfl rfl ?_
      refine K_gno rfl rfl rfl rfl ?_
      refine KV (R_pickT rfl rfl) rfl ?_
      refine KV (R_move rfl) rfl ?_
      refine K_gno rfl rfl rfl rfl ?_
      refine K_gno rfl rfl rfl rfl ?_
      refine K_gno rfl rfl rfl rfl ?_
      refine KV (R_pickT rfl rfl) rfl ?_
      refine K_nil ?_
      refine Q_then ?_
      refine K_ifT rfl ?_
      refine K_seq ?_
      refine K_region ?_
      refine K_call c7 rfl rfl (known_spec _ (hT.mono (by first | exact hv1 | exact hv1.trans hv2 | exact hv1.trans (hv2.trans hv3) | exact hv1.trans (hv2.trans (hv3.trans hv4)) | exact hv1.trans (hv2.trans (hv3.trans (hv4.trans hv5)))))) ?_
      rintro _ V99 hv99 rfl
      refine KV (R_assign rfl) rfl ?_
      refine K_nil ?_
      refine Q_then ?_
      refine K_ret ?_
      refine Q_then_ret ?_
      refine results_gen (rs := [.tmp 8]) (vs := [_]) rfl ⟨rfl, trivial⟩ ?_
      first | rfl | exact congrArg Value.bool (decide_eq_true (by assumption)) | (refine congrArg Value.bool ?_; simp)
    ·
      intro h21
      obtain ⟨hd8, hd5, _, _⟩ := hsml (by simpa using h21)
      refine K_gyes rfl rfl ?_
      refine KV (R_move rfl) rfl ?_
      refine K_gyes rfl rfl ?_
      refine KV (R_len sl25 rfl) rfl ?_
      refine K_gyes rfl rfl ?_
      refine KV (R_cmp rfl rfl rfl) rfl ?_
      refine KV (R_pickF rfl rfl) rfl ?_
      refine KV (R_move rfl) rfl ?_
      refine K_split ?_ ?_
      ·
        intro h26
        refine K_gno rfl rfl rfl rfl ?_
        refine K_gno rfl rfl rfl rfl ?_
        refine K_gno rfl rfl rfl rfl ?_
        refine KV (R_pickT rfl rfl) rfl ?_
        refine KV (R_move rfl) rfl ?_
        refine K_gno rfl rfl rfl rfl ?_
        refine K_gno rfl rfl rfl rfl ?_
        refine K_gno rfl rfl rfl rfl ?_
        refine KV (R_pickT rfl rfl) rfl ?_
        refine KV (R_move rfl) rfl ?_
        refine K_gno rfl rfl rfl rfl ?_
        refine K_gno rfl rfl rfl rfl ?_
        refine K_gno rfl rfl rfl rfl ?_
        refine KV (R_pickT rfl rfl) rfl ?_
        refine KV (R_move rfl) rfl ?_
        refine K_gno rfl rfl rfl rfl ?_
        refine K_gno rfl rfl rfl rfl ?_
        refine K_gno rfl rfl rfl rfl ?_
        refine KV (R_pickT rfl rfl) rfl ?_
        refine K_nil ?_
        refine Q_then ?_
        refine K_ifT rfl ?_
        refine K_seq ?_
        refine K_region ?_
        refine K_call c7 rfl rfl (known_spec _ (hT.mono (by first | exact hv1 | exact hv1.trans hv2 | exact hv1.trans (hv2.trans hv3) | exact hv1.trans (hv2.trans (hv3.trans hv4)) | exact hv1.trans (hv2.trans (hv3.trans (hv4.trans hv5)))))) ?_
        rintro _ V99 hv99 rfl
        refine KV (R_assign rfl) rfl ?_
        refine K_nil ?_
        refine Q_then ?_
        refine K_ret ?_
        refine Q_then_ret ?_
        refine results_gen (rs := [.tmp 8]) (vs := [_]) rfl ⟨rfl, trivial⟩ ?_
        first | rfl | exact congrArg Value.bool (decide_eq_true (by assumption)) | (refine congrArg Value.bool ?_; simp)
      ·
        intro h26
        refine K_gyes rfl rfl ?_
        refine KV (R_move rfl) rfl ?_
        refine K_gyes rfl rfl ?_
        refine KV (R_len sl25 rfl) rfl ?_
        refine K_gyes rfl rfl ?_
        refine KV (R_cmp rfl rfl rfl) rfl ?_
        refine KV (R_pickF rfl rfl) rfl ?_
        refine KV (R_move rfl) rfl ?_
        refine K_split ?_ ?_
        ·
          intro h31
          refine K_gno rfl rfl rfl rfl ?_
          refine K_gno rfl rfl rfl rfl ?_
          refine K_gno rfl rfl rfl rfl ?_
          refine KV (R_pickT rfl rfl) rfl ?_
          refine KV (R_move rfl) rfl ?_
          refine K_gno rfl rfl rfl rfl ?_
          refine K_gno rfl rfl rfl rfl ?_
          refine K_gno rfl rfl rfl rfl ?_
          refine KV (R_pickT rfl rfl) rfl ?_
          refine KV (R_move rfl) rfl ?_
          refine K_gno rfl rfl rfl rfl ?_
          refine K_gno rfl rfl rfl rfl ?_
          refine K_gno rfl rfl rfl rfl ?_
          refine KV (R_pickT rfl rfl) rfl ?_
          refine K_nil ?_
          refine Q_then ?_
          refine K_ifT rfl ?_
          refine K_seq ?_
          refine K_region ?_
          refine K_call c7 rfl rfl (known_spec _ (hT.mono (by first | exact hv1 | exact hv1.trans hv2 | exact hv1.trans (hv2.trans hv3) | exact hv1.trans (hv2.trans (hv3.trans hv4)) | exact hv1.trans (hv2.trans (hv3.trans (hv4.trans hv5)))))) ?_
          rintro _ V99 hv99 rfl
          refine KV (R_assign rfl) rfl ?_
          refine K_nil ?_
          refine Q_then ?_
          refine K_ret ?_
          refine Q_then_ret ?_
          refine results_gen (rs := [.tmp 8]) (vs := [_]) rfl ⟨rfl, trivial⟩ ?_
          first | rfl | exact congrArg Value.bool (decide_eq_true (by assumption)) | (refine congrArg Value.bool ?_; simp)
        ·
          intro h31
          have hrk8 : rk.length ≤ 8 := by omega
          refine K_gyes rfl rfl ?_
          refine KV (R_loadW ty24 0 rfl rfl rfl rfl) rfl ?_
          refine K_gyes rfl rfl ?_
          refine K_call c34 rfl rfl (short_spec t V2 _ (by omega) (hr.mono (hv1.trans (hv2)))) ?_
          rintro _ V3 hv3 rfl
          refine K_gyes rfl rfl ?_
          refine KV (R_notP rfl) rfl ?_
          refine KV (R_pickF rfl rfl) rfl ?_
          refine KV (R_move rfl) rfl ?_
          refine K_split ?_ ?_
          ·
            intro h36
            refine K_gno rfl rfl rfl rfl ?_
            refine K_gno rfl rfl rfl rfl ?_
            refine K_gno rfl rfl rfl rfl ?_
            refine KV (R_pickT rfl rfl) rfl ?_
            refine KV (R_move rfl) rfl ?_
            refine K_gno rfl rfl rfl rfl ?_
            refine K_gno rfl rfl rfl rfl ?_
            refine K_gno rfl rfl rfl rfl ?_
            refine KV (R_pickT rfl rfl) rfl ?_
            refine K_nil ?_
            refine Q_then ?_
            refine K_ifT rfl ?_
            refine K_seq ?_
            refine K_region ?_
            refine K_call c7 rfl rfl (known_spec _ (hT.mono (by first | exact hv1 | exact hv1.trans hv2 | exact hv1.trans (hv2.trans hv3) | exact hv1.trans (hv2.trans (hv3.trans hv4)) | exact hv1.trans (hv2.trans (hv3.trans (hv4.trans hv5)))))) ?_
            rintro _ V99 hv99 rfl
            refine KV (R_assign rfl) rfl ?_
            refine K_nil ?_
            refine Q_then ?_
            refine K_ret ?_
            refine Q_then_ret ?_
            refine results_gen (rs := [.tmp 8]) (vs := [_]) rfl ⟨rfl, trivial⟩ ?_
            first | rfl | exact congrArg Value.bool (decide_eq_true (by assumption)) | (refine congrArg Value.bool ?_; simp)
          ·
            intro h36
            refine K_gyes rfl rfl ?_
            refine KV (R_loadW ty63 1 rfl rfl rfl rfl) rfl ?_
            refine K_gyes rfl rfl ?_
            refine K_call c29 rfl rfl (rdcheck_spec d _ _ _ V3 (hd.mono (hv1.trans (hv2.trans (hv3)))) hb) ?_
            rintro _ V4 hv4 rfl
            refine K_gyes rfl rfl ?_
            refine KV (R_cmp rfl rfl rfl) rfl ?_
            refine KV (R_pickF rfl rfl) rfl ?_
            refine KV (R_move rfl) rfl ?_
            refine K_split ?_ ?_
            ·
              intro h41
              refine K_gno rfl rfl rfl rfl ?_
              refine K_gno rfl rfl rfl rfl ?_
              refine K_gno rfl rfl rfl rfl ?_
              refine KV (R_pickT rfl rfl) rfl ?_
              refine K_nil ?_
              refine Q_then ?_
              refine K_ifT rfl ?_
              refine K_seq ?_
              refine K_region ?_
              refine K_call c7 rfl rfl (known_spec _ (hT.mono (by first | exact hv1 | exact hv1.trans hv2 | exact hv1.trans (hv2.trans hv3) | exact hv1.trans (hv2.trans (hv3.trans hv4)) | exact hv1.trans (hv2.trans (hv3.trans (hv4.trans hv5)))))) ?_
              rintro _ V99 hv99 rfl
              refine KV (R_assign rfl) rfl ?_
              refine K_nil ?_
              refine Q_then ?_
              refine K_ret ?_
              refine Q_then_ret ?_
              refine results_gen (rs := [.tmp 8]) (vs := [_]) rfl ⟨rfl, trivial⟩ ?_
              first | rfl | exact congrArg Value.bool (decide_eq_true (by assumption)) | (refine congrArg Value.bool ?_; simp)
            ·
              intro h41
              have hde : dtErr d = 0 := Decidable.not_not.1 h41
              refine K_gyes rfl rfl ?_
              refine KV (R_move rfl) rfl ?_
              refine K_gyes rfl rfl ?_
              refine K_call c36 rfl rfl (rcheck31_spec rk _ V4 (h2.mono (hv1.trans (hv2.trans (hv3.trans (hv4))))) (by omega)) ?_
              rintro _ V5 hv5 rfl
              refine K_gyes rfl rfl ?_
              refine KV (R_cmp rfl rfl rfl) rfl ?_
              refine KV (R_pickF rfl rfl) rfl ?_
              refine K_nil ?_
              refine Q_then ?_
              refine K_if rfl (fun h45 => ?_) (fun h45 => ?_)
              ·
                refine K_seq ?_
                refine K_region ?_
                refine K_call c7 rfl rfl (known_spec _ (hT.mono (by first | exact hv1 | exact hv1.trans hv2 | exact hv1.trans (hv2.trans hv3) | exact hv1.trans (hv2.trans (hv3.trans hv4)) | exact hv1.trans (hv2.trans (hv3.trans (hv4.trans hv5)))))) ?_
                rintro _ V99 hv99 rfl
                refine KV (R_assign rfl) rfl ?_
                refine K_nil ?_
                refine Q_then ?_
                refine K_ret ?_
                refine Q_then_ret ?_
                refine results_gen (rs := [.tmp 8]) (vs := [_]) rfl ⟨rfl, trivial⟩ ?_
                first | rfl | exact congrArg Value.bool (decide_eq_true (by assumption)) | (refine congrArg Value.bool ?_; simp)
              ·
                have hkr : ranksErr rk = 0 := Decidable.not_not.1 h45
                refine K_skip ?_
                refine Q_then ?_
                refine K_seq ?_
                refine K_region ?_
                refine KV (R_loadW ty63 1 rfl rfl rfl rfl) rfl ?_
                refine K_call c28 rfl rfl (l33from_spec d _ _ _ V5 (hd.mono (hv1.trans (hv2.trans (hv3.trans (hv4.trans (hv5))))))) ?_
                rintro _ V6 hv6 rfl
                refine KV (R_move rfl) rfl ?_
                refine KV (R_move rfl) rfl ?_
                refine K_call c2118 rfl rfl (project_spec d l rk hde hd5 hd8 hkr hrk8 hb1 _ _ _ _ _ V6 hb (hd.mono (hv1.trans (hv2.trans (hv3.trans (hv4.trans (hv5.trans (hv6))))))) (h1.mono (hv1.trans (hv2.trans (hv3.trans (hv4.trans (hv5.trans (hv6))))))) (h2.mono (hv1.trans (hv2.trans (hv3.trans (hv4.trans (hv5.trans (hv6)))))))) ?_
                rintro _ V7 hv7 ⟨p1, p2, p3, rfl, hP⟩
                obtain ⟨za1, zc1x, rfl⟩ := hP.r.shape
                obtain ⟨za2, zc2x, rfl⟩ := hP.a.shape
                obtain ⟨za3, zc3x, rfl⟩ := hP.t.shape
                refine KV (R_move rfl) rfl ?_
                refine KV (R_extract rfl rfl) rfl ?_
                refine KV (R_extract rfl rfl) rfl ?_
                refine KA (A_alloc z54) rfl fun b9 => ?_
                refine K_storeW ty54 0 rfl rfl rfl rfl rfl rfl rfl ?_
                refine KV (R_assign rfl) rfl ?_
                refine K_nil ?_
                refine Q_then ?_
                refine K_seq ?_
                refine K_seq ?_
                by_cases hm : mapsM l d.ranks rk = true
                ·
                  have hJ : ProjOk d l rk := ⟨hde, hd5, hd8, hkr, hrk8, hm⟩
                  have hpb := projD_bounds hJ
                  simp only [if_pos hm] at hP ⊢
                  refine K_region ?_
                  refine KV (R_move rfl) rfl ?_
                  refine KV (R_fieldAddr 0 fd63_0 rfl) rfl ?_
                  refine KV (R_loadO ty25 2 rfl rfl rfl rfl (fun _ => rfl) rfl) rfl ?_
                  refine KV (R_move rfl) rfl ?_
                  refine K_call c37 rfl rfl (maps_spec l d.ranks rk _ _ _ V7 (h1.mono (hv1.trans (hv2.trans (hv3.trans (hv4.trans (hv5.trans (hv6.trans (hv7)))))))) ((hd.mono (hv1.trans (hv2.trans (hv3.trans (hv4.trans (hv5.trans (hv6.trans (hv7)))))))).r) (h2.mono (hv1.trans (hv2.trans (hv3.trans (hv4.trans (hv5.trans (hv6.trans (hv7)))))))) (by omega)) ?_
                  rintro _ V8 hv8 rfl
                  refine KV (R_not rfl) rfl ?_
                  refine K_nil ?_
                  refine Q_then ?_
                  refine K_ifB rfl (fun h60 => ?_) (fun h60 => ?_)
                  ·
                    rw [hm] at h60; cases h60
                  ·
                    refine K_skip ?_
                    refine Q_then ?_
                    refine K_seq ?_
                    refine K_seq ?_
                    refine K_region ?_
                    refine KV (R_move rfl) rfl ?_
                    refine KV (R_cmp rfl rfl rfl) rfl ?_
                    refine K_nil ?_
                    refine Q_then ?_
                    refine K_if rfl (fun h69 => ?_) (fun h69 => ?_)
                    ·
                      exact absurd rfl h69
                    ·
                      refine K_skip ?_
                      refine Q_then ?_
                      refine K_seq ?_
                      refine K_regionD (fin := false) (R := [0, 2, 3, 4, 1, 5, 6, 7, 8, 9, 10, 11, 12, 13, 14]) (by kernel_rfl) mixed (.cons_cons _ (.cons_cons _ (.cons_cons _ (List.nil_sublist _)))) ?_
                      refine D_val rfl rfl rfl (R_loadW ty63 2 rfl rfl rfl rfl) ?_
                      refine D_val rfl rfl rfl (R_move rfl) ?_
                      refine D_val rfl rfl rfl (R_move rfl) ?_
                      refine D_val rfl rfl rfl (R_loadW ty24 1 rfl rfl rfl rfl) ?_
                      refine D_call rfl rfl c28 rfl ⟨⟨0, rfl⟩, ⟨1, rfl⟩, ⟨2, rfl⟩, trivial⟩ (l33from_spec d _ _ _ V8 (hd.mono (hv1.trans (hv2.trans (hv3.trans (hv4.trans (hv5.trans (hv6.trans (hv7.trans (hv8)))))))))) ?_
                      rintro _ V9 hv9 rfl
                      refine D_call rfl rfl c11 rfl ⟨⟨0, rfl⟩, ⟨1, rfl⟩, ⟨2, rfl⟩, trivial⟩ (tree_spec t.size t V9 _ (Nat.le_refl _) (by omega) (hr.mono (hv1.trans (hv2.trans (hv3.trans (hv4.trans (hv5.trans (hv6.trans (hv7.trans (hv8.trans (hv9))))))))))) ?_
                      rintro _ V10 hv10 ⟨ts, rfl, hts⟩
                      obtain ⟨y0, y1, y2, y3, rfl⟩ := hts.shape
                      refine D_call rfl rfl c2114 rfl ⟨⟨0, rfl⟩, ⟨1, rfl⟩, ⟨2, rfl⟩, trivial⟩ (witness_spec d l rk t _ _ _ _ _ V10 _ hb (hd.mono (hv1.trans (hv2.trans (hv3.trans (hv4.trans (hv5.trans (hv6.trans (hv7.trans (hv8.trans (hv9.trans (hv10))))))))))) (h1.mono (hv1.trans (hv2.trans (hv3.trans (hv4.trans (hv5.trans (hv6.trans (hv7.trans (hv8.trans (hv9.trans (hv10))))))))))) (h2.mono (hv1.trans (hv2.trans (hv3.trans (hv4.trans (hv5.trans (hv6.trans (hv7.trans (hv8.trans (hv9.trans (hv10))))))))))) hb1 hb2 hts hbt) ?_
                      rintro _ V11 hv11 ⟨ds, o, E, rfl, hX, hE, hE0, hE1⟩
                      obtain ⟨s0, s1, s2, s3, rfl⟩ := hX.shape
                      have hwe : witErr d l rk t = validErr rk t := by
                        unfold witErr
                        rw [if_neg (not_not_intro hde), if_neg (not_not_intro hkr), if_pos hm]
                      rw [hwe] at hE
                      subst hE
                      refine D_val rfl rfl rfl (R_move rfl) ?_
                      refine D_val rfl rfl rfl (R_extract rfl rfl) ?_
                      refine D_val rfl rfl rfl (R_extract rfl rfl) ?_
                      refine D_val rfl rfl rfl (R_extract rfl rfl) ?_
                      refine D_alloc rfl rfl rfl (A_alloc z30) fun b11 => ?_
                      refine D_storeW ty30 0 rfl rfl rfl rfl rfl ⟨⟨0, rfl⟩, ⟨1, rfl⟩, ⟨2, rfl⟩, trivial⟩ rfl rfl rfl rfl ?_
                      refine D_val rfl rfl rfl (R_assign rfl) ?_
                      refine D_val rfl rfl rfl (R_assign rfl) ?_
                      refine D_done ?_
                      refine Q_then ?_
                      refine K_seq ?_
                      refine K_seq ?_
                      refine K_region ?_
                      refine KV (R_move rfl) rfl ?_
                      refine KV (R_loadW ty24 2 rfl rfl rfl rfl) rfl ?_
                      refine K_call c39 rfl rfl (rvalid_spec rk _ t V11 _ hb2 (by omega) (hr.mono (hv1.trans (hv2.trans (hv3.trans (hv4.trans (hv5.trans (hv6.trans (hv7.trans (hv8.trans (hv9.trans (hv10.trans (hv11)))))))))))) (h2.mono (hv1.trans (hv2.trans (hv3.trans (hv4.trans (hv5.trans (hv6.trans (hv7.trans (hv8.trans (hv9.trans (hv10.trans (hv11))))))))))))) ?_
                      rintro _ V12 hv12 rfl
                      refine KV (R_cmp rfl rfl rfl) rfl ?_
                      refine K_nil ?_
                      refine Q_then ?_
                      refine K_if rfl (fun h84 => ?_) (fun h84 => ?_)
                      ·
                        refine K_seq ?_
                        refine K_regionD (fin := false) (R := [0, 1, 2, 3, 4, 5, 6, 7, 8, 9]) (by kernel_rfl) mixed (.cons_cons _ (.cons_cons _ (.cons_cons _ (.cons_cons _ (List.nil_sublist _))))) ?_
                        refine D_val rfl rfl rfl (R_loadW ty54 1 rfl rfl rfl rfl) ?_
                        refine D_val rfl rfl rfl (R_loadW ty24 2 rfl rfl rfl rfl) ?_
                        refine D_call rfl rfl c11 rfl ⟨⟨0, rfl⟩, ⟨1, rfl⟩, ⟨2, rfl⟩, ⟨3, rfl⟩, trivial⟩ (tree_spec t.size t V12 _ (Nat.le_refl _) (by omega) (hr.mono (hv1.trans (hv2.trans (hv3.trans (hv4.trans (hv5.trans (hv6.trans (hv7.trans (hv8.trans (hv9.trans (hv10.trans (hv11.trans (hv12)))))))))))))) ?_
                        rintro _ V13 hv13 ⟨ds2, rfl, hd2⟩
                        obtain ⟨z0, z1, z2, z3, rfl⟩ := hd2.shape
                        refine D_call rfl rfl c40 rfl ⟨⟨0, rfl⟩, ⟨1, rfl⟩, ⟨2, rfl⟩, ⟨3, rfl⟩, trivial⟩ (daccepts_spec (projD d l rk) _ _ _ t V13 _ hpb.2 (by omega) (hP.mono (hv8.trans (hv9.trans (hv10.trans (hv11.trans (hv12.trans (hv13))))))) hd2) ?_
                        rintro _ V14 hv14 rfl
                        rw [proj_bad h84]
                        refine D_val rfl rfl rfl (R_not rfl) ?_
                        refine D_val rfl rfl rfl (R_move rfl) ?_
                        refine D_splitB ?_ ?_
                        ·
                          intro h90
                          refine D_val rfl rfl rfl (R_move rfl) ?_
                          refine D_val rfl rfl rfl (R_cmp rfl rfl rfl) ?_
                          refine D_val rfl rfl rfl (R_pickT rfl rfl) ?_
                          refine D_val rfl rfl rfl (R_assign rfl) ?_
                          refine D_done ?_
                          refine Q_then ?_
                          refine K_ret ?_
                          refine Q_then_ret ?_
                          refine results_gen (rs := [.tmp 8]) (vs := [_]) rfl ⟨rfl, trivial⟩ ?_
                          first | rfl | exact congrArg Value.bool (decide_eq_true (by assumption)) | (refine congrArg Value.bool ?_; simp)
                        ·
                          intro h90
                          cases h90
                      ·
                        have hve : validErr rk t = 0 := Decidable.not_not.1 h84
                        have hW := hE1 hve
                        refine K_skip ?_
                        refine Q_then ?_
                        refine K_seq ?_
                        refine K_regionD (fin := false) (R := [0, 1, 2, 3, 4, 7, 5, 6, 8, 9, 10]) (by kernel_rfl) mixed (.cons_cons _ (.cons_cons _ (.cons_cons _ (.cons_cons _ (List.nil_sublist _))))) ?_
                        refine D_val rfl rfl rfl (R_move rfl) ?_
                        refine D_val rfl rfl rfl (R_cmp rfl rfl rfl) ?_
                        refine D_val rfl rfl rfl (R_move rfl) ?_
                        refine D_split ?_ ?_
                        ·
                          intro h96
                          refine D_val rfl rfl rfl (R_loadW ty54 1 rfl rfl rfl rfl) ?_
                          refine D_val rfl rfl rfl (R_loadW ty24 2 rfl rfl rfl rfl) ?_
                          refine D_val rfl rfl rfl (R_move rfl) ?_
                          refine D_call rfl rfl c11 rfl ⟨⟨0, rfl⟩, ⟨1, rfl⟩, ⟨2, rfl⟩, ⟨3, rfl⟩, trivial⟩ (tree_spec t.size t V12 _ (Nat.le_refl _) (by omega) (hr.mono (hv1.trans (hv2.trans (hv3.trans (hv4.trans (hv5.trans (hv6.trans (hv7.trans (hv8.trans (hv9.trans (hv10.trans (hv11.trans (hv12)))))))))))))) ?_
                          rintro _ V13 hv13 ⟨ds2, rfl, hd2⟩
                          obtain ⟨z0, z1, z2, z3, rfl⟩ := hd2.shape
                          refine D_call rfl rfl c40 rfl ⟨⟨0, rfl⟩, ⟨1, rfl⟩, ⟨2, rfl⟩, ⟨3, rfl⟩, trivial⟩ (daccepts_spec (projD d l rk) _ _ _ t V13 _ hpb.2 (by omega) (hP.mono (hv8.trans (hv9.trans (hv10.trans (hv11.trans (hv12.trans (hv13))))))) hd2) ?_
                          rintro _ V14 hv14 rfl
                          rw [proj_wit hJ hve hW]
                          refine D_val rfl rfl rfl (R_boolEq (by kernel_rfl) rfl rfl) ?_
                          refine D_val rfl rfl rfl (R_pickT rfl rfl) ?_
                          refine D_val rfl rfl rfl (R_assign rfl) ?_
                          refine D_done ?_
                          refine Q_then ?_
                          refine K_ret ?_
                          refine results_gen (rs := [.tmp 8]) (vs := [_]) rfl ⟨rfl, trivial⟩ ?_
                          first | rfl | exact congrArg Value.bool (decide_eq_true (by assumption)) | (refine congrArg Value.bool ?_; simp)
                        ·
                          intro h96
                          exact absurd hve h96
                ·
                  simp only [if_neg hm] at hP ⊢
                  refine K_region ?_
                  refine KV (R_move rfl) rfl ?_
                  refine KV (R_fieldAddr 0 fd63_0 rfl) rfl ?_
                  refine KV (R_loadO ty25 2 rfl rfl rfl rfl (fun _ => rfl) rfl) rfl ?_
                  refine KV (R_move rfl) rfl ?_
                  refine K_call c37 rfl rfl (maps_spec l d.ranks rk _ _ _ V7 (h1.mono (hv1.trans (hv2.trans (hv3.trans (hv4.trans (hv5.trans (hv6.trans (hv7)))))))) ((hd.mono (hv1.trans (hv2.trans (hv3.trans (hv4.trans (hv5.trans (hv6.trans (hv7)))))))).r) (h2.mono (hv1.trans (hv2.trans (hv3.trans (hv4.trans (hv5.trans (hv6.trans (hv7)))))))) (by omega)) ?_
                  rintro _ V8 hv8 rfl
                  refine KV (R_not rfl) rfl ?_
                  refine K_nil ?_
                  refine Q_then ?_
                  refine K_ifB rfl (fun h60 => ?_) (fun h60 => ?_)
                  ·
                    refine K_seq ?_
                    refine K_region ?_
                    refine KV (R_move rfl) rfl ?_
                    refine KV (R_cmp rfl rfl rfl) rfl ?_
                    refine KV (R_move rfl) rfl ?_
                    refine K_split ?_ ?_
                    ·
                      intro h63
                      refine K_gyes rfl rfl ?_
                      refine KV (R_loadW ty54 0 rfl rfl rfl rfl) rfl ?_
                      refine K_gyes rfl rfl ?_
                      refine KV (R_build z54 pl54 rfl rfl) rfl ?_
                      refine K_gyes rfl rfl ?_
                      refine K_call c19 rfl rfl (dteq_spec ⟨[], [], []⟩ ⟨[], [], []⟩ _ _ _ _ _ _ _ (hP.mono hv8) (RepDt.nil _) DtSmall.nil DtSmall.nil) ?_
                      rintro _ V98 hv98 rfl
                      refine KV (R_pickT rfl rfl) rfl ?_
                      refine KV (R_assign rfl) rfl ?_
                      refine K_nil ?_
                      refine Q_then ?_
                      refine K_ret ?_
                      refine Q_then_ret ?_
                      refine results_gen (rs := [.tmp 8]) (vs := [_]) rfl ⟨rfl, trivial⟩ ?_
                      first | rfl | exact congrArg Value.bool (decide_eq_true (by assumption)) | (refine congrArg Value.bool ?_; simp)
                    ·
                      intro h63
                      exact absurd rfl h63
                  ·
                    exact absurd (by simpa using h60) hm
end Go.Proofs.X

/-
  From the claims' reading of arguments to what the walks know: trees, slices of ints, the table; and the claims' end. Own work. No statement of the seat is proved here.
-/
namespace Pal
open Go Go.ChangeShapes Go.WideShapes Go.RowKit
section
variable {H : Type} {enc : TypeId × Value → H} {P : Program} {w : World} {sp : Nat → Bool} {held : Bool}

theorem mapM_get {α β : Type} {f : α → Option β} : ∀ {l : List α} {r : List β}, l.mapM f = some r → l.length = r.length ∧ ∀ (i : Nat) (a : α), l[i]? = some a → f a = r[i]?
  | [], r, h => by simp at h; subst h; exact ⟨rfl, fun i a ha => by simp at ha⟩
  | x :: l, r, h => by
    simp only [List.mapM_cons, Option.bind_eq_bind, Option.bind_eq_some_iff, Option.pure_def, Option.some.injEq] at h
    obtain ⟨y, hy, ys, hys, rfl⟩ := h
    obtain ⟨h1, h2⟩ := mapM_get hys
    refine ⟨by simp [h1], fun i a ha => ?_⟩
    cases i with
    | zero => simp at ha; subst ha; simpa using hy
    | succ i => simp at ha; simpa using h2 i a ha
theorem cells_at {a : Addr} {n : Nat} {cs : List Value} (hn : 0 < n) (h : w.cells? 0 a n = some cs) : a = ⟨a.block, a.off, none⟩ ∧ cs.length = n ∧ At (heapOf w) a.block a.off cs := by
  unfold World.cells? at h
  rw [if_pos (Nat.zero_le _)] at h
  obtain ⟨h1, h2⟩ := mapM_get h
  have hlen : cs.length = n := by simpa using h1.symm
  have hget : ∀ i, i < n → w.cell? (a.add i) = cs[i]? := fun i hi => h2 i i (by simp [hi])
  obtain ⟨b, off, spot⟩ := a
  have h0 := hget 0 hn
  have hsome : ∃ v, cs[0]? = some v := ⟨cs[0], by simp⟩
  obtain ⟨v0, hv0⟩ := hsome
  have h0' : w.cell? ⟨b, off, spot⟩ = some v0 := by rw [← hv0]; simpa [Addr.add] using h0
  unfold World.cell? at h0'
  simp only at h0'
  split at h0'
  · rename_i c T fz hb
    cases spot with
    | some s => simp at h0'
    | none =>
      refine ⟨rfl, hlen, c, T, fz, hb, fun j v hj => ?_⟩
      have hjn : j < n := by rw [← hlen]; exact (List.getElem?_eq_some_iff.1 hj).1
      have := hget j hjn
      rw [addr_add, hj] at this
      simpa [World.cell?, hb] using this
  · cases h0'
theorem i64_of_wf {n : Int} (h : (Lit.int .i64 n).wf = true) : i64ok n := by
  simp [Lit.wf, IntKind.min, IntKind.max, IntKind.bits, IntKind.signed] at h
  simp only [i64ok]
  omega
theorem read_int {t : TypeId} {fuel : Nat} {cs : List Value} {x : DataW H × List MemPlace} (ht : P.underlying t = some (.int .i64)) (h : DataW.trod enc P w 0 sp held fuel t cs = some x) : ∃ n, cs = [.int .i64 n] ∧ i64ok n := by
  obtain ⟨n, h1, _, h3⟩ := DataW.trod_int ht h
  exact ⟨n, h1, i64_of_wf h3⟩
/-- A slice whose elements have sz cells. -/
theorem read_slice {t e : TypeId} {sz fuel : Nat} {cs : List Value} {x : DataW H × List MemPlace} (ht : P.underlying t = some (.slice e)) (hce : P.cellsOf e = sz) (hsz : 0 < sz) (h : DataW.trod enc P w 0 sp held fuel t cs = some x) :
    ∃ (a : Option Addr) (len cap b off : Nat) (elems rest : List (DataW H × List MemPlace)) (rc : Nat → List Value), cs = [.slice a len cap] ∧ elems.length = len ∧ (0 < len → a = some ⟨b, off, none⟩) ∧
      (x.1 = .nil ∧ len = 0 ∨ x.1 = .slice (elems.map (·.1)) (rest.map (·.1))) ∧
      ∀ i (hi : i < elems.length), (rc i).length = sz ∧ At (heapOf w) b (off + i * sz) (rc i) ∧ ∃ m, m < fuel ∧ DataW.trod enc P w 0 sp held m e (rc i) = some elems[i] := by
  subst hce
  rcases DataW.trod_slice ht h with ⟨rfl, rfl⟩ | ⟨a, len, cap, elems, rest, n, rfl, rfl, rfl, _, _, _, hlen, hel, _⟩
  · exact ⟨none, 0, 0, 0, 0, [], [], fun _ => [], rfl, rfl, fun h => absurd h (Nat.lt_irrefl _), .inl ⟨rfl, rfl⟩, fun i hi => absurd hi (Nat.not_lt_zero _)⟩
  · have hget : ∀ i (hi : i < elems.length), ∃ ci, w.cells? 0 (a.add (i * P.cellsOf e)) (P.cellsOf e) = some ci ∧ DataW.trod enc P w 0 sp held n e ci = some elems[i] := by
      intro i hi
      have := hel i (hlen ▸ hi)
      rw [List.getElem?_eq_getElem hi] at this
      exact Option.bind_eq_some_iff.1 this
    have hspot : 0 < len → a = ⟨a.block, a.off, none⟩ := by
      intro h0
      obtain ⟨ci, h1, _⟩ := hget 0 (hlen ▸ h0)
      have := (cells_at hsz h1).1
      simpa [Addr.add] using this
    refine ⟨some a, len, cap, a.block, a.off, elems, rest, fun i => (w.cells? 0 (a.add (i * P.cellsOf e)) (P.cellsOf e)).getD [], rfl, hlen, fun h0 => congrArg some (hspot h0), .inr rfl, fun i hi => ?_⟩
    obtain ⟨ci, h1, h2⟩ := hget i hi
    have ha := hspot (by omega)
    simp only [h1, Option.getD_some]
    obtain ⟨_, h4, h5⟩ := cells_at hsz h1
    rw [ha, addr_add] at h5
    exact ⟨h4, h5, n, Nat.lt_succ_self n, h2⟩
theorem At.join {Hv : View} {b off sz : Nat} : ∀ {n : Nat} {rc : Nat → List Value}, 0 < sz → 0 < n → (∀ i, i < n → (rc i).length = sz ∧ At Hv b (off + i * sz) (rc i)) → At Hv b off ((List.range n).flatMap rc) := by
  intro n rc hsz hn h
  obtain ⟨h1, cs, T, fz, hb, h2⟩ := h 0 hn
  refine ⟨cs, T, fz, hb, ?_⟩
  clear h2 h1
  induction n with
  | zero => omega
  | succ n ih =>
    intro j v hj
    rw [List.range_succ, List.flatMap_append] at hj
    have hl : ∀ m, m ≤ n + 1 → ((List.range m).flatMap rc).length = m * sz := by
      intro m hm
      induction m with
      | zero => simp
      | succ m ihm =>
        rw [List.range_succ, List.flatMap_append, List.length_append, ihm (by omega)]
        simp [(h m (by omega)).1, Nat.add_mul]
    have hln := hl n (by omega)
    by_cases hjn : j < n * sz
    · rw [List.getElem?_append_left (by omega)] at hj
      rcases Nat.eq_zero_or_pos n with e | e
      · subst e; simp at hjn
      · exact ih e (fun i hi => h i (by omega)) j v hj
    · rw [List.getElem?_append_right (by omega), hln] at hj
      obtain ⟨_, cs2, T2, fz2, hb2, h4⟩ := h n (by omega)
      rw [hb] at hb2
      cases hb2
      have := h4 (j - n * sz) v (by simpa using hj)
      rw [show off + n * sz + (j - n * sz) = off + j by omega] at this
      exact this
/-- What a measure of readings owes (the rows' own 'uptoBulk'). -/
structure Bulk (f : DataW H → Nat) (g : List (DataW H) → Nat) : Prop where
  agg : ∀ ps, f (.agg ps) = g ps + 1
  sl : ∀ es rs, f (.slice es rs) = g es + g rs + 1
  nil : g [] = 0
  cons : ∀ d r, g (d :: r) = f d + g r
structure TreeT (P : Program) (t tl ti : TypeId) : Prop where
  u : ∃ f1 f2 : Field, P.underlying t = some (.struct #[f1, f2]) ∧ (f1.type = ti ∧ f1.offset = 0) ∧ (f2.type = tl ∧ f2.offset = 1)
  ul : P.underlying tl = some (.slice t)
  ui : P.underlying ti = some (.int .i64)
  ct : P.cellsOf t = 2
  cl : P.cellsOf tl = 1
  ci : P.cellsOf ti = 1
theorem Bulk.sizes {f : DataW H → Nat} {g : List (DataW H) → Nat} (hB : Bulk f g) : ∀ {ts : List Tr} {es : List (DataW H × List MemPlace)}, ts.length = es.length → (∀ i (h : i < ts.length) (h2 : i < es.length), ts[i].size ≤ f es[i].1) → Tr.sizes ts ≤ g (es.map (·.1))
  | [], [], _, _ => by simp [Tr.sizes]
  | t :: ts, e :: es, hl, h => by
    have h0 := h 0 (by simp) (by simp)
    have ih := Bulk.sizes hB (ts := ts) (es := es) (by simpa using hl) (fun i h1 h2 => h (i + 1) (Nat.succ_lt_succ h1) (Nat.succ_lt_succ h2))
    simp only [List.getElem_cons_zero] at h0
    simp only [Tr.sizes, List.map_cons, hB.cons]
    omega
  | [], _ :: _, hl, _ => by simp at hl
  | _ :: _, [], hl, _ => by simp at hl
theorem read_tree {t tl ti : TypeId} (hT : TreeT P t tl ti) {f : DataW H → Nat} {g : List (DataW H) → Nat} (hB : Bulk f g) : ∀ (fuel : Nat) (cs : List Value) (x : DataW H × List MemPlace), DataW.trod enc P w 0 sp held fuel t cs = some x → ∃ u, RepT (heapOf w) u cs ∧ u.size ≤ f x.1 := by
  obtain ⟨f1, f2, hu, ⟨t1, o1⟩, ⟨t2, o2⟩⟩ := hT.u
  intro fuel
  induction fuel using Nat.strongRecOn with
  | _ fuel ih =>
    intro cs x h
    obtain ⟨xs, n, rfl, rfl, hcl, hxl, hxs⟩ := DataW.trod_struct hu h
    rw [hT.ct] at hcl
    obtain ⟨c0, c1, rfl⟩ : ∃ c0 c1, cs = [c0, c1] := by
      match cs, hcl with
      | [a, b], _ => exact ⟨a, b, rfl⟩
    obtain ⟨y0, y1, rfl⟩ : ∃ y0 y1, xs = [y0, y1] := by
      match xs, hxl with
      | [a, b], _ => exact ⟨a, b, rfl⟩
    have h0 := hxs 0 f1 rfl
    have h1 := hxs 1 f2 rfl
    rw [t1, o1, hT.ci] at h0
    rw [t2, o2, hT.cl] at h1
    obtain ⟨s, e0, hs⟩ := read_int hT.ui h0
    obtain ⟨a, len, cap, b, off, elems, rest, rc, e1, hlen, ha, hx, hel⟩ := read_slice hT.ul hT.ct (by decide) h1
    have e0' : c0 = .int .i64 s := by simpa using e0
    have e1' : c1 = .slice a len cap := by simpa using e1
    subst e0'
    subst e1'
    have hsub : ∀ i (hi : i < elems.length), ∃ u, RepT (heapOf w) u (rc i) ∧ u.size ≤ f elems[i].1 := by
      intro i hi
      obtain ⟨_, _, m, hm, h3⟩ := hel i hi
      exact ih m (by omega) _ _ h3
    let T : Nat → Tr := fun i => if h : i < elems.length then Classical.choose (hsub i h) else .node 0 []
    have hTs : ∀ i (hi : i < elems.length), RepT (heapOf w) (T i) (rc i) ∧ (T i).size ≤ f elems[i].1 := by
      intro i hi
      simp only [T, hi, dif_pos]
      exact Classical.choose_spec (hsub i hi)
    have htl : ((List.range len).map T).length = len := by simp
    have hsz : Tr.sizes ((List.range len).map T) ≤ g (elems.map (·.1)) := by
      refine hB.sizes (by simp [hlen]) fun i h1 h2 => ?_
      simpa using (hTs i h2).2
    refine ⟨.node s ((List.range len).map T), ?_, ?_⟩
    · have hm := RepT.mk (H := heapOf w) s ((List.range len).map T) a cap b off rc hs (fun hne => ha (by
          rcases Nat.eq_zero_or_pos len with e | e
          · subst e; exact absurd rfl hne
          · exact e)) (fun i hi => ⟨(hel i (by omega)).1, (hel i (by omega)).2.1⟩) (fun i hi => by
          have := (hTs i (by omega)).1
          simpa using this)
      rw [htl] at hm
      exact hm
    · simp only [Tr.size, List.map_cons, List.map_nil, hB.agg, hB.cons, hB.nil]
      rcases hx with ⟨_, h0⟩ | hx
      · subst h0; simp [Tr.sizes]
      · rw [hx, hB.sl]; omega
/-- The table of the row's list. -/
theorem tab_of {name : String} (h : Lib.TabIs P w name .u8 (bruijn.map fun (k : Nat) => (k : Int))) (hg : P.globalNamed name = some 0) : Tab (heapOf w) := by
  have hc : ∀ i, i < 64 → w.cell? ⟨0, i, none⟩ = some (.int .u8 ((bruijn.getD i 0 : Nat) : Int)) := by
    intro i hi
    have := h.cell hg i (by simpa [bruijn] using hi)
    rw [this]
    congr 2
    have hl : i < bruijn.length := by simpa [bruijn] using hi
    simp [List.getD, hl]
  have h0 := hc 0 (by decide)
  unfold World.cell? at h0
  split at h0
  · rename_i c T fz hb
    refine ⟨c, T, fz, hb, fun j v hj => ?_⟩
    have hjl : j < 64 := by
      have := (List.getElem?_eq_some_iff.1 hj).1
      simpa [bruijn] using this
    have h1 := hc j hjl
    have hl : j < bruijn.length := by simpa [bruijn] using hjl
    simp only [World.cell?, hb] at h1
    simp at h1
    rw [Nat.zero_add]
    simp [hl] at hj
    rw [← hj]
    simpa [List.getD, hl] using h1
  · cases h0
/-- Arguments read behind a call asx they read before, where no old block was turned. -/
theorem trodAll_stays {W W' : World} (hl : laidOutB P = true) (hsame : ∀ b, b < W.heap.size → W'.heap[b]? = W.heap[b]?) {sp' : Nat → Bool} : ∀ {ts : List TypeId} {vs : List Value} {ds : List (DataW H)} {ps : List MemPlace},
    (∀ t ∈ ts, P.readableRec t = true ∧ t < P.types.size) → DataW.TrodAll enc P W 0 (fun _ => true) true ts vs ds ps → (∀ p ∈ ps, p.block < W.heap.size) → (∀ p ∈ ps, sp' p.block = true) → DataW.TrodAll enc P W' 0 sp' true ts vs ds ps
  | [], [], [], _, _, h, _, _ => h
  | t :: ts, v :: vs, d :: ds, ps, ht, h, hlt, hsp => by
    obtain ⟨p, q, h1, h2, rfl⟩ := h
    obtain ⟨hr, hrow⟩ := ht t (by simp)
    refine ⟨p, q, WideElems.Trod_stays hl hr hrow h1 (fun x hx => ?_) (fun x hx => hsp x (List.mem_append_left _ hx)), trodAll_stays hl hsame (fun t ht' => ht t (by simp [ht'])) h2 (fun x hx => hlt x (List.mem_append_right _ hx)) (fun x hx => hsp x (List.mem_append_right _ hx)), rfl⟩
    have hb := hlt x (List.mem_append_left _ hx)
    cases x with
    | cell b off =>
      have := hsame b hb
      simp [World.sameAt, World.cell?, this]
    | map b => exact hsame b hb
  | [], _ :: _, _, _, _, h, _, _ => by simp [DataW.TrodAll] at h
  | [], [], _ :: _, _, _, h, _, _ => by simp [DataW.TrodAll] at h
  | _ :: _, [], _, _, _, h, _, _ => by simp [DataW.TrodAll] at h
  | _ :: _, _ :: _, [], _, _, h, _, _ => by simp [DataW.TrodAll] at h
/-- 'It returns true; the input reads asx it did.' -/
theorem true_post {fn : Func} {s : ChangeSpec} {apart fresh handsOn again : Bool} {W W' : World} {args : Array Value} {ds gs : List (DataW H)} {before : List MemPlace} {tb : TypeId} {Hv Hv' : View} {hl' : HL}
    (hl : laidOutB P = true) (hpar : ∀ t ∈ fn.params.toList, P.readableRec t = true ∧ t < P.types.size) (hrt : fn.resultTypes = #[tb]) (hu : P.underlying tb = some .bool) (hvs : s.vars = [])
    (hfn : s.fn H ds = { results := [.lit (.bool true)], args := ds }) (hW : DataW.Whole enc P fn.params.toList s.vars apart W args.toList ds gs before) (hok : Ok ⟨W, Hv, []⟩ W' Hv' hl') :
    s.post enc P fn apart fresh handsOn again W args (.bool true) W' := by
  have hsame : ∀ b, b < W.heap.size → W'.heap[b]? = W.heap[b]? := fun b hb => hok.old b hb (by simp)
  have hlt := hW.lt
  obtain ⟨pa, pv, hA, hV, hps, hz, hn⟩ := id hW
  rw [hvs] at hV
  obtain ⟨hgs, hpv⟩ := trodVars_none hV
  subst hgs
  subst hpv
  rw [List.append_nil] at hps
  subst hps
  have hfn' : s.fn H (ds ++ []) = { results := [.lit (.bool true)], args := ds } := by rw [List.append_nil]; exact hfn
  have hres : ∀ (b : Nat) (sp : Nat → Bool) (hd : Bool), DataW.TrodAll enc P W' b sp hd fn.resultTypes.toList ((Value.bool true).resultList fn.resultTypes.size) (s.fn H (ds ++ [])).results [] := by
    intro b sp hd
    rw [hfn', hrt]
    exact trodAll_mk1 ⟨1, by simp [DataW.trod, Value.cells, hu]⟩
  have hargs : ∀ sp : Nat → Bool, (∀ p ∈ before, sp p.block = true) → DataW.TrodAll enc P W' 0 sp true fn.params.toList args.toList (s.fn H (ds ++ [])).args before := by
    intro sp hsp
    rw [hfn']
    exact trodAll_stays hl hsame hpar hA hlt hsp
  have hvars : ∀ sp : Nat → Bool, DataW.TrodVars enc P W' sp s.vars (s.fn H (ds ++ [])).vars [] := by
    intro sp
    rw [hfn', hvs]
    rfl
  have hk : ∀ may : MemPlace → Prop, W.keptBut W' may := by
    intro may
    refine ⟨hok.os, hok.output, fun i hi => ?_⟩
    rw [hsame i hi]
    cases hw : W.heap[i]? with
    | none => rfl
    | some o => cases o <;> simp
  have hold : ∀ p ∈ before, (fun b => decide (b < W.heap.size)) p.block = true := fun p hp => by simpa using hlt p hp
  have hfz : ∀ b off, MemPlace.cell b off ∈ before → W'.frozen? ⟨b, off, none⟩ = false := by
    intro b off hp
    rw [← hz b off hp]
    simp [World.frozen?, hsame b (hlt _ hp)]
  refine ⟨ds, [], before, [], before, [], hW, hres _ _ _, hargs _ hold, hvars _, hk _, fun _ => ⟨ok_one hrt rfl (okWide_bool_mk hu true), _, _, ([] ++ before) ++ [], ⟨[] ++ before, [], trodAll_append (hargs _ (fun _ _ => rfl)) (hres _ _ _), hvars _, rfl, ?_, ?_⟩, ?_⟩⟩
  · intro b off hp
    exact hfz b off (by simpa using hp)
  · intro ha
    have := hn ha
    simpa using this
  · intro p hp _
    simpa using hp
end
end Pal

/-
  Reading arguments, by their types: slices, rules, automata. Own work. No statement of the seat is proved here.
-/
namespace Pal
open Go Go.ChangeShapes Go.WideShapes Go.RowKit
section
variable {H : Type} {enc : TypeId × Value → H} {P : Program} {w : World} {sp : Nat → Bool} {held : Bool}
/-- Every reading at type t is of some y, laid asx R says, and no greater than B says of the reading's measure. -/
def RdAt {α : Type} (enc : TypeId × Value → H) (P : Program) (w : World) (sp : Nat → Bool) (held : Bool) (f : DataW H → Nat) (t : TypeId) (R : α → List Value → Prop) (B : α → Nat → Prop) : Prop :=
  ∀ (fuel : Nat) (cs : List Value) (x : DataW H × List MemPlace), DataW.trod enc P w 0 sp held fuel t cs = some x → ∃ y, R y cs ∧ B y (f x.1)
structure Bulk1 (f : DataW H → Nat) (g : List (DataW H) → Nat) : Prop where
  b : Bulk f g
  pos : ∀ d, 1 ≤ f d
theorem Bulk1.len {f : DataW H → Nat} {g : List (DataW H) → Nat} (hB : Bulk1 f g) : ∀ ds : List (DataW H), ds.length ≤ g ds
  | [] => by simp
  | d :: r => by have := hB.len r; have := hB.pos d; rw [hB.b.cons, List.length_cons]; omega
theorem Bulk1.mem {f : DataW H → Nat} {g : List (DataW H) → Nat} (hB : Bulk1 f g) : ∀ {ds : List (DataW H)} {d : DataW H}, d ∈ ds → f d ≤ g ds
  | [], _, h => by cases h
  | e :: r, d, h => by
    rw [hB.b.cons]
    rcases List.mem_cons.1 h with rfl | h
    · omega
    · have := hB.mem h; omega
theorem rd_int {f : DataW H → Nat} {t : TypeId} (ht : P.underlying t = some (.int .i64)) : RdAt enc P w sp held f t RI (fun _ _ => True) := by
  intro fuel cs x h
  obtain ⟨n, h1, h2⟩ := read_int ht h
  exact ⟨n, ⟨h2, h1⟩, trivial⟩
theorem rd_bool {f : DataW H → Nat} {t : TypeId} (ht : P.underlying t = some .bool) : RdAt enc P w sp held f t RB (fun _ _ => True) := by
  intro fuel cs x h
  obtain ⟨b, h1, _⟩ := DataW.trod_bool ht h
  exact ⟨b, h1, trivial⟩
def RSl {α : Type} (Hv : View) (R : α → List Value → Prop) (sz : Nat) (xs : List α) (cs : List Value) : Prop := ∃ v cells, cs = [v] ∧ SlAt Hv v xs.length cells ∧ RepL R sz xs cells
def BSl {α : Type} (B : α → Nat → Prop) (xs : List α) (n : Nat) : Prop := xs.length ≤ n ∧ ∀ x ∈ xs, B x n
theorem repL_range {α : Type} {R : α → List Value → Prop} {sz : Nat} {T : Nat → α} {rc : Nat → List Value} : ∀ {n : Nat}, (∀ i, i < n → R (T i) (rc i) ∧ (rc i).length = sz) → RepL R sz ((List.range n).map T) ((List.range n).flatMap rc)
  | 0, _ => .nil
  | n + 1, h => by
    rw [range_map_succ, List.range_succ, List.flatMap_append]
    simp only [List.flatMap_cons, List.flatMap_nil, List.append_nil]
    exact (repL_range fun i hi => h i (by omega)).snoc (h n (by omega)).1 (h n (by omega)).2
theorem rd_slice {α : Type} [Inhabited α] {f : DataW H → Nat} {g : List (DataW H) → Nat} (hB : Bulk1 f g) {t e : TypeId} {sz : Nat} {R : α → List Value → Prop} {B : α → Nat → Prop} (hm : ∀ y n m, n ≤ m → B y n → B y m) (ht : P.underlying t = some (.slice e)) (hce : P.cellsOf e = sz) (hsz : 0 < sz)
    (hR : RdAt enc P w sp held f e R B) : RdAt enc P w sp held f t (RSl (heapOf w) R sz) (BSl B) := by
  intro fuel cs x h
  obtain ⟨a, len, cap, b, off, elems, rest, rc, rfl, hlen, ha, hx, hel⟩ := read_slice ht hce hsz h
  have hsub : ∀ i (hi : i < elems.length), ∃ y, R y (rc i) ∧ B y (f elems[i].1) := by
    intro i hi
    obtain ⟨_, _, m, _, h3⟩ := hel i hi
    exact hR m _ _ h3
  let T : Nat → α := fun i => if h : i < elems.length then Classical.choose (hsub i h) else default
  have hT : ∀ i (hi : i < elems.length), R (T i) (rc i) ∧ B (T i) (f elems[i].1) := by
    intro i hi
    simp only [T, hi, dif_pos]
    exact Classical.choose_spec (hsub i hi)
  refine ⟨(List.range len).map T, ⟨_, (List.range len).flatMap rc, rfl, ⟨a, cap, by simp, ?_⟩, repL_range fun i hi => ⟨(hT i (by omega)).1, (hel i (by omega)).1⟩⟩, ?_, ?_⟩
  · rcases Nat.eq_zero_or_pos len with h0 | h0
    · subst h0; exact .inl ⟨by simp, by simp⟩
    · exact .inr ⟨b, off, ha h0, At.join hsz h0 fun i hi => ⟨(hel i (by omega)).1, (hel i (by omega)).2.1⟩⟩
  · rw [List.length_map, List.length_range]
    rcases hx with ⟨_, h0⟩ | hx
    · omega
    · rw [hx, hB.b.sl]
      have := hB.len (elems.map (·.1))
      rw [List.length_map] at this
      omega
  · intro y hy
    obtain ⟨i, hi, rfl⟩ := List.mem_map.1 hy
    have hi' := List.mem_range.1 hi
    refine hm _ _ _ ?_ (hT i (by omega)).2
    rcases hx with ⟨_, h0⟩ | hx
    · omega
    · rw [hx, hB.b.sl]
      have := hB.mem (List.mem_map_of_mem (f := fun (p : DataW H × List MemPlace) => p.1) (List.getElem_mem (show i < elems.length by omega)))
      omega
/-- A struct's fields, each at its own place, one cell each. -/
def FldT (P : Program) (fd : Field) (t : TypeId) (o : Nat) : Prop := fd.type = t ∧ fd.offset = o
theorem RSl.si {Hv : View} {xs : List Int} {cs : List Value} (h : RSl Hv RI 1 xs cs) : ∃ v, cs = [v] ∧ SI Hv v xs := by
  obtain ⟨v, cells, rfl, h1, h2⟩ := h
  obtain ⟨rfl, h3⟩ := h2.eq_ints
  exact ⟨v, rfl, h1, h3⟩
theorem RepL.eq_bools {xs : List Bool} {cells : List Value} (h : RepL RB 1 xs cells) : cells = bools xs := by
  induction h with
  | nil => rfl
  | cons h _ _ ih => rw [h, ih]; rfl
theorem RSl.sb {Hv : View} {xs : List Bool} {cs : List Value} (h : RSl Hv RB 1 xs cs) : ∃ v, cs = [v] ∧ SB Hv v xs := by
  obtain ⟨v, cells, rfl, h1, h2⟩ := h
  have := h2.eq_bools
  subst this
  exact ⟨v, rfl, h1⟩
theorem RSl.ssi {Hv : View} {xss : List (List Int)} {cs : List Value} (h : RSl Hv (RSl Hv RI 1) 1 xss cs) : ∃ v, cs = [v] ∧ SSI Hv v xss := by
  obtain ⟨v, cells, rfl, h1, h2⟩ := h
  exact ⟨v, rfl, cells, h1, h2.imp fun xs cs hx => by
    obtain ⟨u, h3, h4⟩ := hx.si
    exact ⟨u, h3, h4⟩⟩
instance : Inhabited Rl := ⟨⟨0, [], 0⟩⟩
/-- ranks, final, to -/
structure DtaT (P : Program) (t ts tb tss ti tbool : TypeId) : Prop where
  u : ∃ f1 f2 f3 : Field, P.underlying t = some (.struct #[f1, f2, f3]) ∧ FldT P f1 ts 0 ∧ FldT P f2 tb 1 ∧ FldT P f3 tss 2
  us : P.underlying ts = some (.slice ti)
  ub : P.underlying tb = some (.slice tbool)
  uss : P.underlying tss = some (.slice ts)
  ui : P.underlying ti = some (.int .i64)
  ubo : P.underlying tbool = some .bool
  ct : P.cellsOf t = 3
  cs : P.cellsOf ts = 1
  cb : P.cellsOf tb = 1
  css : P.cellsOf tss = 1
  ci : P.cellsOf ti = 1
  cbo : P.cellsOf tbool = 1
theorem rd_dta {f : DataW H → Nat} {g : List (DataW H) → Nat} (hB : Bulk1 f g) {t ts tb tss ti tbool : TypeId} (hT : DtaT P t ts tb tss ti tbool) : RdAt (α := Dt) enc P w sp held f t (fun d cs => ∃ v1 v2 v3, cs = [v1, v2, v3] ∧ RepDt (heapOf w) d v1 v2 v3)
    (fun d n => d.ranks.length ≤ n ∧ d.acc.length ≤ n ∧ d.to.length ≤ n ∧ ∀ x ∈ d.to, x.length ≤ n) := by
  obtain ⟨f1, f2, f3, hu, ⟨t1, o1⟩, ⟨t2, o2⟩, ⟨t3, o3⟩⟩ := hT.u
  intro fuel cs x h
  obtain ⟨xs, n, rfl, rfl, hcl, hxl, hxs⟩ := DataW.trod_struct hu h
  rw [hT.ct] at hcl
  obtain ⟨c0, c1, c2, rfl⟩ : ∃ c0 c1 c2, cs = [c0, c1, c2] := by
    match cs, hcl with
    | [a, b, c], _ => exact ⟨a, b, c, rfl⟩
  obtain ⟨y0, y1, y2, rfl⟩ : ∃ y0 y1 y2, xs = [y0, y1, y2] := by
    match xs, hxl with
    | [a, b, c], _ => exact ⟨a, b, c, rfl⟩
  have h0 := hxs 0 f1 rfl
  have h1 := hxs 1 f2 rfl
  have h2 := hxs 2 f3 rfl
  rw [t1, o1, hT.cs] at h0
  rw [t2, o2, hT.cb] at h1
  rw [t3, o3, hT.css] at h2
  obtain ⟨rs, hr, hrb, _⟩ := rd_slice hB (fun _ _ _ _ _ => trivial) hT.us hT.ci (by decide) (rd_int hT.ui) _ _ _ h0
  obtain ⟨bs, hbs, hbb, _⟩ := rd_slice hB (fun _ _ _ _ _ => trivial) hT.ub hT.cbo (by decide) (rd_bool hT.ubo) _ _ _ h1
  obtain ⟨ts', hts, htb, htb2⟩ := rd_slice (B := BSl fun _ _ => True) hB (fun _ _ _ h1 h2 => ⟨Nat.le_trans h2.1 h1, h2.2⟩) hT.uss hT.cs (by decide) (rd_slice hB (fun _ _ _ _ _ => trivial) hT.us hT.ci (by decide) (rd_int hT.ui)) _ _ _ h2
  obtain ⟨v1, e0, hv1⟩ := hr.si
  obtain ⟨v2, e1, hv2⟩ := hbs.sb
  obtain ⟨v3, e2, hv3⟩ := hts.ssi
  have e0' : c0 = v1 := by simpa using e0
  have e1' : c1 = v2 := by simpa using e1
  have e2' : c2 = v3 := by simpa using e2
  subst e0' e1' e2'
  have hsum : f (.agg ([y0, y1, y2].map (·.1))) = f y0.1 + (f y1.1 + (f y2.1 + 0)) + 1 := by
    simp only [List.map_cons, List.map_nil, hB.b.agg, hB.b.cons, hB.b.nil]
  refine ⟨⟨rs, bs, ts'⟩, ⟨_, _, _, rfl, hv1, hv2, hv3⟩, ?_⟩
  dsimp only
  rw [hsum]
  exact ⟨by omega, by omega, by omega, fun x hx => by have := (htb2 x hx).1; omega⟩
theorem agg_of {v : Value} {cs : List Value} (h : v.cells.toList = cs) (hl : cs.length ≠ 1) : v = .agg cs.toArray := by
  subst h
  cases v with
  | agg c => rfl
  | _ => exact absurd rfl hl
theorem okw_agg {base : Nat} {t : TypeId} {c2 : Array Value} (ht : (∃ e, P.underlying t = some (.slice e)) ∨ ∃ k, P.underlying t = some (.int k)) (h : Value.okWide P w .any base t (.agg c2)) : False := by
  unfold Value.okWide at h
  rcases ht with ⟨e, ht⟩ | ⟨k, ht⟩ <;>
  · rw [ht] at h
    unfold Cell.okWide at h
    rw [ht] at h
    dsimp only at h
    unfold Cell.ok at h
    rw [ht] at h
    exact h
theorem okw_cell {base : Nat} {t : TypeId} {v u : Value} (ht : (∃ e, P.underlying t = some (.slice e)) ∨ ∃ k, P.underlying t = some (.int k)) (h : Value.okWide P w .any base t v) (hc : v.cells.toList = [u]) : v = u := by
  cases v with
  | agg c2 => exact (okw_agg ht h).elim
  | _ => exact List.head_eq_of_cons_eq hc
end
end Pal
