/-
  Part of the proof: rules for walks, contracts of the functions that the statements reach, plain laws. Own work. No statement of the seat is proved here.
-/
import Derived.Test.YtdclodapkhgabaaGreatPart2
import Derived.Test.YtdclodapkhgabaaGreatPalKn
import Derived.Test.YtdclodapkhgabaaGreatPalEq
namespace Go.Proofs.X
open Go Pal Go.Proofs
attribute [local irreducible] Pal.KO Pal.KC Pal.KQ Pal.KD

theorem accepted_spec (a : Au) (vr vu vf : Value) (t : Tr) (cs : List Value) (H : View) (ha : RepAu H a vr vu vf) (hr : RepT H t cs) (hok : AuOk a) (hN : a.rules.length ≤ 14) (hsz : t.size ≤ 7) (hst : a.states ≤ 1048576) : Sat Tryz.prog F2014 #[.agg #[vr, .int .i64 a.states, vu, vf], .agg cs.toArray] H (fun r H' => SSI H' r (accR (sortO a.rules) t a.final)) := by
  obtain ⟨ra, rcp, rfl⟩ := ha.r.shape
  obtain ⟨fa, fcp, rfl⟩ := ha.f.shape
  obtain ⟨ua, ucp, rfl⟩ := ha.ushape
  have hrl := ha.rl
  have hul := ha.ul
  have hfl := ha.fl
  obtain ⟨x0, x1, x2, x3, rfl⟩ := hr.shape
  have har : ∀ r ∈ a.rules, r.args.length ≤ 1048576 := fun r hr => by
    obtain ⟨h1, h2, h3, _⟩ := hok.ru r hr
    have hlt : r.sym.toNat < a.ranks.length := by omega
    have h4 := (hok.rk r.sym.toNat hlt).2
    have h5 : a.ranks.getD r.sym.toNat 0 = a.ranks[r.sym.toNat] := by simp [List.getD, hlt]
    omega
  have hlr := sortR_len a.rules
  refine enterO (n := 41) (args := [.agg #[.slice ra a.ranks.length rcp, .int .i64 a.states, .slice ua a.rules.length ucp, .slice fa a.final.length fcp], .agg #[.int .i64 x0, .slice x1 x2 x3]]) Tryz.func23 rfl rfl rfl fun w0 => ?_
  refine K_seq ?_
  refine K_region ?_
  refine KA (A_box rfl) rfl fun b2 => ?_
  refine KA (A_box rfl) rfl fun b3 => ?_
  refine KV (R_assign rfl) rfl ?_
  refine K_nil ?_
  refine Q_then ?_
  refine K_seq ?_
  refine K_region ?_
  refine KV (R_assign rfl) rfl ?_
  refine K_nil ?_
  refine Q_then ?_
  refine K_seq ?_
  refine K_regionD (fin := false) (R := [0, 2, 1, 3, 4]) (by kernel_rfl) mixed (.cons_cons _ (.cons_cons _ (List.nil_sublist _))) ?_
  refine D_val rfl rfl rfl (R_loadW ty42 1 rfl rfl rfl rfl) ?_
  refine D_val rfl rfl rfl (R_loadW ty24 0 rfl rfl rfl rfl) ?_
  refine D_call rfl rfl c67 rfl ⟨⟨0, rfl⟩, ⟨1, rfl⟩, trivial⟩ (rsorted_spec a _ _ _ H ha (by omega) hst har) ?_
  rintro _ VS hvS ⟨s1, s2, s3, rfl, hS⟩
  refine D_call rfl rfl c2042 rfl ⟨⟨0, rfl⟩, ⟨1, rfl⟩, trivial⟩ (runs_spec a.ranks (sortedM a).final a.states (sortR a.rules) (by omega) t.size t VS s1 s2 s3 _ (Nat.le_refl _) hsz (hr.mono hvS) hS) ?_
  rintro vW V1 hv1 hW
  rw [sortR_eq hok.sameLen] at hW
  have hWs := ways_small (rs := sortO a.rules) (t := t) (by have := sortO_len a.rules; omega) hsz
  have hWl := Tr.ways_len (sortO a.rules) t
  have htp := t.size_pos
  obtain ⟨wya, wyc, rfl⟩ := hW.shape
  refine D_val rfl rfl rfl (R_assign rfl) ?_
  refine D_done ?_
  refine Q_then ?_
  refine K_seq ?_
  refine K_seq ?_
  obtain ⟨W, hW0⟩ : ∃ W, t.ways (sortO a.rules) = W := ⟨_, rfl⟩
  rw [hW0] at hW hWs hWl
  rw [hW0]
  refine K_region ?_
  refine KV (R_assign rfl) rfl ?_
  refine K_nil ?_
  refine Q_then ?_
  refine K_block ?_
  refine K_nilrow T25 1 ?_
  refine K_loopD (G := Nat × View × Value × List Value) [5, 7, 12, 13, 14, 15, 16, 17, 18, 19, 20, 21, 22, 23, 24, 25, 26, 27, 28, 29, 30, 31, 32, 33, 34, 35, 36, 37, 38, 39] (fun g => [(7, .int .i64 (g.1 : Int)), (5, g.2.2.1)]) (fun hl g => (hl.set 0 (row g.2.2.1 T25 1 ((W.take g.1).filter (fun r => decide (lastI r ∈ a.final))).length g.2.2.2))) (fun g => g.2.1) (fun g => (g.1 ≤ W.length) ∧ (VLe V1 g.2.1) ∧ (RepL (RSI g.2.1) 1 ((W.take g.1).filter (fun r => decide (lastI r ∈ a.final))) g.2.2.2) ∧ (∃ x y, g.2.2.1 = .slice x ((W.take g.1).filter (fun r => decide (lastI r ∈ a.final))).length y)) (fun g => W.length - g.1) (0, V1, nilS, []) ⟨Nat.zero_le _, VLe.refl _, .nil, ⟨none, 0, rfl⟩⟩ ⟨rfl, rfl, trivial⟩ (by simp only [args0, Nat.reduceAdd, del, memN, beqN, Nat.reduceBEq, cond_true, cond_false]; rfl) rfl rfl ?_
  rintro ⟨k, V, vo, co⟩ ⟨hk, hV, hco, hvo⟩
  dsimp only at hk hV hco hvo
  dsimp only [List.set, List.cons_append, List.nil_append]
  obtain ⟨oa, oc, rfl⟩ := hvo
  have hal : ((W.take k).filter (fun r => decide (lastI r ∈ a.final))).length ≤ W.length := by
    refine Nat.le_trans (List.length_filter_le _ _) ?_
    rw [List.length_take]; omega
  refine K_seq ?_
  refine K_seq ?_
  refine K_region ?_
  refine KV (R_move rfl) rfl ?_
  refine KV (R_move rfl) rfl ?_
  refine KV (R_len sl44 rfl) rfl ?_
  refine KV (R_cmp rfl rfl rfl) rfl ?_
  refine K_nil ?_
  refine Q_then ?_
  refine K_if rfl (fun h15 => ?_) (fun h15 => ?_)
  ·
    have hk' : k < W.length := by omega
    obtain ⟨lb0, lo0, lxa, lxc, hle0, hlA, hlS⟩ := (hW.mono hV).get hk'
    cases hle0
    have hlz := hWl W[k] (List.getElem_mem hk')
    have hlp : 0 < W[k].length := by omega
    obtain ⟨lb, lo, hle1, hla⟩ := hlS.get (i := W[k].length - 1) (by omega)
    cases hle1
    have hlast : At V lb (lo + (((W[k].length : Nat) : Int) - 1).toNat * 1) [.int .i64 (lastI W[k])] := by rw [show (((W[k].length : Nat) : Int) - 1).toNat = W[k].length - 1 by omega, lastI_at hlp]; exact hla
    refine K_skip ?_
    refine Q_then ?_
    refine K_seq ?_
    refine K_block ?_
    refine K_seq ?_
    refine K_regionD (fin := false) (R := [0, 1, 2, 3, 4, 5, 6, 7, 8, 9, 10, 11, 12, 13, 14]) (by kernel_rfl) mixed (.cons_cons _ (.cons_cons _ (.cons_cons _ (List.nil_sublist _)))) ?_
    refine D_val rfl rfl rfl (R_fieldAddr 3 fd42_3 rfl) ?_
    refine D_val rfl rfl rfl (R_loadO ty25 2 rfl rfl rfl rfl (fun _ => rfl) rfl) ?_
    refine D_val rfl rfl rfl (R_move rfl) ?_
    refine D_val rfl rfl rfl (R_move rfl) ?_
    refine D_val rfl rfl rfl (R_indexN sl44 ty25 rfl rfl (by omega)) ?_
    refine D_val rfl rfl rfl (R_loadH ty25 rfl (hlA) rfl (fun _ => rfl) rfl) ?_
    refine D_val rfl rfl rfl (R_move rfl) ?_
    refine D_val rfl rfl rfl (R_move rfl) ?_
    refine D_val rfl rfl rfl (R_indexN sl44 ty25 rfl rfl (by omega)) ?_
    refine D_val rfl rfl rfl (R_loadH ty25 rfl (hlA) rfl (fun _ => rfl) rfl) ?_
    refine D_val rfl rfl rfl (R_len sl25 rfl) ?_
    refine D_val rfl rfl rfl (R_sub rfl rfl (by omega)) ?_
    refine D_val rfl rfl rfl (R_index sl25 ty3 rfl rfl ⟨by omega, by omega⟩) ?_
    refine D_val rfl rfl rfl (R_loadH ty3 rfl (hlast) rfl (fun _ => rfl) rfl) ?_
    refine D_call rfl rfl c62 rfl ⟨⟨0, rfl⟩, ⟨1, rfl⟩, ⟨2, rfl⟩, trivial⟩ (rhas_spec (lastI W[k]) a.final _ V (ha.mono (hvS.trans (hv1.trans hV))).f hfl) ?_
    rintro _ V2 hv2 rfl
    refine D_done ?_
    refine Q_then ?_
    refine K_if rfl (fun h32 => ?_) (fun h32 => ?_)
    ·
      refine K_region ?_
      refine KV (R_move rfl) rfl ?_
      refine KV (R_move rfl) rfl ?_
      refine KV (R_move rfl) rfl ?_
      refine KV (R_indexN sl44 ty25 rfl rfl (by omega)) rfl ?_
      refine KV (R_loadH ty25 rfl (hlA.mono hv2) rfl (fun _ => rfl) rfl) rfl ?_
      refine KA (A_buildSlice (vs := [.slice (some ⟨lb, lo, none⟩) W[k].length lxc]) sl44 ty25 z25 rfl rfl (by simp [Value.cells]) (by simp) rfl (by decide)) rfl fun b38 => ?_
      refine K_append1 0 ap44 rfl rfl rfl rfl rfl rfl ⟨by omega, by omega⟩ rfl fun a39 k39 hn39 => ?_
      refine KV (R_assign rfl) rfl ?_
      refine K_nil ?_
      refine Q_block ?_
      refine Q_then ?_
      refine K_region ?_
      refine KV (R_move rfl) rfl ?_
      refine KV (R_add rfl rfl (by omega)) rfl ?_
      refine KV (R_assign rfl) rfl ?_
      refine K_nil ?_
      have hOL : ((W.take (k + 1)).filter (fun r => decide (lastI r ∈ a.final))).length = ((W.take k).filter (fun r => decide (lastI r ∈ a.final))).length + 1 := (congrArg List.length (accR_snoc hk')).trans (by rw [if_pos h32]; exact List.length_append)
      refine Q_nextD (k + 1, V2, .slice a39 (((W.take k).filter (fun r => decide (lastI r ∈ a.final))).length + 1) k39, co ++ [.slice (some ⟨lb, lo, none⟩) W[k].length lxc]) ⟨hk', hV.trans hv2, by rw [accR_snoc hk', if_pos h32]; exact hco.snocR hv2 (hlS.mono hv2), ⟨_, _, by rw [hOL]⟩⟩ (by (try dsimp only); omega) ⟨rfl, rfl, trivial⟩ rfl (by dsimp only [List.set]; rw [hOL]; rfl) rfl
    ·
      refine K_skip ?_
      refine Q_block ?_
      refine Q_then ?_
      refine K_region ?_
      refine KV (R_move rfl) rfl ?_
      refine KV (R_add rfl rfl (by omega)) rfl ?_
      refine KV (R_assign rfl) rfl ?_
      refine K_nil ?_
      have hOS : (W.take (k + 1)).filter (fun r => decide (lastI r ∈ a.final)) = ((W.take k).filter (fun r => decide (lastI r ∈ a.final))) := by rw [accR_snoc hk', if_neg h32, List.append_nil]
      refine Q_nextD (k + 1, V2, .slice oa ((W.take k).filter (fun r => decide (lastI r ∈ a.final))).length oc, co) ⟨hk', hV.trans hv2, by rw [hOS]; exact hco.impSI hv2, ⟨_, _, by rw [hOS]⟩⟩ (by (try dsimp only); omega) ⟨rfl, rfl, trivial⟩ rfl (by dsimp only [List.set]; rw [hOS]) rfl
  ·
    have hk' : k = W.length := by omega
    rw [hk', List.take_length] at hco
    rw [hk', List.take_length]
    refine K_exit ?_
    refine Q_then_exit ?_
    refine Q_then_exit ?_
    refine Q_block_exit ?_
    refine Q_then ?_
    refine K_seq ?_
    refine K_region ?_
    refine KV (R_move rfl) rfl ?_
    refine KV (R_assign rfl) rfl ?_
    refine K_nil ?_
    refine Q_then ?_
    refine K_ret ?_
    refine KQ_pubrow rfl fun Hp hp hrow => ?_
    refine results_gen (rs := [.tmp 4]) (vs := [_]) rfl ⟨rfl, trivial⟩ ?_
    unfold accR
    rw [hW0]
    exact ⟨co, hrow.sl, hco.impSI hp⟩

theorem rleast_spec (l : List (List Int)) (v : Value) (H : View) (hl : SSI H v l) (hb : l.length ≤ 1048576) (hi : ∀ x ∈ l, x.length ≤ 1048576) : Sat Tryz.prog F2017 #[v] H (fun r H' => SI H' r ((l.foldl bestO none).getD [])) := by
  obtain ⟨a, cp, rfl⟩ := hl.shape
  refine enterO (n := 27) (args := [.slice a l.length cp]) Tryz.func26 rfl rfl rfl fun w0 => ?_
  refine K_seq ?_
  refine K_region ?_
  refine KV (R_assign rfl) rfl ?_
  refine K_nil ?_
  refine Q_then ?_
  refine K_seq ?_
  refine K_region ?_
  refine KV (R_assign rfl) rfl ?_
  refine K_nil ?_
  refine Q_then ?_
  refine K_seq ?_
  refine K_seq ?_
  refine K_region ?_
  refine KV (R_assign rfl) rfl ?_
  refine K_nil ?_
  refine Q_then ?_
  refine K_block ?_
  refine K_loopD (G := Nat × View × Value) [3, 4, 5, 6, 7, 8, 9, 10, 11, 12, 13, 14, 15, 16, 17, 18, 19, 20, 21, 22, 23, 24, 25] (fun g => [(4, .int .i64 (g.1 : Int)), (3, g.2.2)]) (fun hl g => hl) (fun g => g.2.1) (fun g => (g.1 ≤ l.length) ∧ (VLe H g.2.1) ∧ ((g.1 = 0 ∧ g.2.2 = nilS) ∨ (0 < g.1 ∧ ∃ x wa wc, (l.take g.1).foldl bestO none = some x ∧ g.2.2 = .slice wa x.length wc ∧ SI g.2.1 g.2.2 x ∧ x.length ≤ 1048576))) (fun g => l.length - g.1) (0, H, nilS) ⟨Nat.zero_le _, VLe.refl _, .inl ⟨rfl, rfl⟩⟩ ⟨rfl, rfl, trivial⟩ (by simp only [args0, Nat.reduceAdd, del, memN, beqN, Nat.reduceBEq, cond_true, cond_false]; rfl) rfl rfl ?_
  rintro ⟨k, V, w⟩ ⟨hk, hV, hw⟩
  dsimp only at hk hV hw
  dsimp only [List.set, List.cons_append, List.nil_append]
  refine K_seq ?_
  refine K_seq ?_
  refine K_region ?_
  refine KV (R_move rfl) rfl ?_
  refine KV (R_move rfl) rfl ?_
  refine KV (R_len sl44 rfl) rfl ?_
  refine KV (R_cmp rfl rfl rfl) rfl ?_
  refine K_nil ?_
  refine Q_then ?_
  refine K_if rfl (fun h8 => ?_) (fun h8 => ?_)
  ·
    have hk' : k < l.length := by omega
    obtain ⟨lb0, lo0, lxa, lxc, hle0, hlA, hlS⟩ := (hl.mono hV).get hk'
    cases hle0
    refine K_skip ?_
    refine Q_then ?_
    refine K_seq ?_
    refine K_block ?_
    refine K_seq ?_
    rcases hw with ⟨h13, hw0⟩ | ⟨h13, x, wa, wc, hbx, hw0, hxS, hxl⟩
    ·
      subst hw0
      have hb0 : (l.take k).foldl bestO none = none := by rw [h13]; rfl
      refine K_region ?_
      refine KV (R_move rfl) rfl ?_
      refine KV (R_cmp rfl rfl rfl) rfl ?_
      refine KV (R_move rfl) rfl ?_
      refine K_split ?_ ?_
      ·
        intro h13b
        refine K_gno rfl rfl rfl rfl ?_
        refine K_gno rfl rfl rfl rfl ?_
        refine K_gno rfl rfl rfl rfl ?_
        refine K_gno rfl rfl rfl rfl ?_
        refine K_gno rfl rfl rfl rfl ?_
        refine K_gno rfl rfl rfl rfl ?_
        refine K_gno rfl rfl rfl rfl ?_
        refine KV (R_pickT rfl rfl) rfl ?_
        refine K_nil ?_
        refine Q_then ?_
        refine K_ifT rfl ?_
        refine K_region ?_
        refine KV (R_move rfl) rfl ?_
        refine KV (R_move rfl) rfl ?_
        refine KV (R_indexN sl44 ty25 rfl rfl (by omega)) rfl ?_
        refine KV (R_loadH ty25 rfl (hlA) rfl (fun _ => rfl) rfl) rfl ?_
        refine KV (R_assign rfl) rfl ?_
        refine K_nil ?_
        refine Q_block ?_
        refine Q_then ?_
        refine K_region ?_
        refine KV (R_move rfl) rfl ?_
        refine KV (R_add rfl rfl (by omega)) rfl ?_
        refine KV (R_assign rfl) rfl ?_
        refine K_nil ?_
        refine Q_nextD (k + 1, V, .slice lxa l[k].length lxc) ⟨hk', hV, .inr ⟨by dsimp only; omega, l[k], lxa, lxc, by rw [best_snoc hk', hb0]; rfl, rfl, hlS, hi _ (List.getElem_mem hk')⟩⟩ (by (try dsimp only); omega) ⟨rfl, rfl, trivial⟩ rfl rfl rfl
      ·
        intro h13b
        exact absurd (by omega) h13b
    ·
      subst hw0
      refine K_region ?_
      refine KV (R_move rfl) rfl ?_
      refine KV (R_cmp rfl rfl rfl) rfl ?_
      refine KV (R_move rfl) rfl ?_
      refine K_split ?_ ?_
      ·
        intro h13b
        exact absurd h13b (by omega)
      ·
        intro h13b
        refine K_gyes rfl rfl ?_
        refine KV (R_move rfl) rfl ?_
        refine K_gyes rfl rfl ?_
        refine KV (R_move rfl) rfl ?_
        refine K_gyes rfl rfl ?_
        refine KV (R_indexN sl44 ty25 rfl rfl (by omega)) rfl ?_
        refine K_gyes rfl rfl ?_
        refine KV (R_loadH ty25 rfl (hlA) rfl (fun _ => rfl) rfl) rfl ?_
        refine K_gyes rfl rfl ?_
        refine KV (R_move rfl) rfl ?_
        refine K_gyes rfl rfl ?_
        refine K_call c60 rfl rfl (cmpl_spec l[k] x _ _ V hlS hxS (Nat.le_trans (hi _ (List.getElem_mem hk')) (by decide)) (by omega)) ?_
        rintro _ V2 hv2 rfl
        refine K_gyes rfl rfl ?_
        refine KV (R_cmp rfl rfl rfl) rfl ?_
        refine KV (R_pickF rfl rfl) rfl ?_
        refine K_nil ?_
        refine Q_then ?_
        refine K_if rfl (fun h21 => ?_) (fun h21 => ?_)
        ·
          refine K_region ?_
          refine KV (R_move rfl) rfl ?_
          refine KV (R_move rfl) rfl ?_
          refine KV (R_indexN sl44 ty25 rfl rfl (by omega)) rfl ?_
          refine KV (R_loadH ty25 rfl (hlA.mono hv2) rfl (fun _ => rfl) rfl) rfl ?_
          refine KV (R_assign rfl) rfl ?_
          refine K_nil ?_
          refine Q_block ?_
          refine Q_then ?_
          refine K_region ?_
          refine KV (R_move rfl) rfl ?_
          refine KV (R_add rfl rfl (by omega)) rfl ?_
          refine KV (R_assign rfl) rfl ?_
          refine K_nil ?_
          refine Q_nextD (k + 1, V2, .slice lxa l[k].length lxc) ⟨hk', hV.trans hv2, .inr ⟨by dsimp only; omega, l[k], lxa, lxc, by rw [best_snoc hk', hbx]; simp only [bestO]; rw [if_pos h21], rfl, hlS.mono hv2, hi _ (List.getElem_mem hk')⟩⟩ (by (try dsimp only); omega) ⟨rfl, rfl, trivial⟩ rfl rfl rfl
        ·
          refine K_skip ?_
          refine Q_block ?_
          refine Q_then ?_
          refine K_region ?_
          refine KV (R_move rfl) rfl ?_
          refine KV (R_add rfl rfl (by omega)) rfl ?_
          refine KV (R_assign rfl) rfl ?_
          refine K_nil ?_
          refine Q_nextD (k + 1, V2, .slice wa x.length wc) ⟨hk', hV.trans hv2, .inr ⟨by dsimp only; omega, x, wa, wc, by rw [best_snoc hk', hbx]; simp only [bestO]; rw [if_neg h21], rfl, hxS.mono hv2, hxl⟩⟩ (by (try dsimp only); omega) ⟨rfl, rfl, trivial⟩ rfl rfl rfl
  ·
    have hk' : k = l.length := by omega
    refine K_exit ?_
    refine Q_then_exit ?_
    refine Q_then_exit ?_
    refine Q_block_exit ?_
    refine Q_then ?_
    refine K_seq ?_
    refine K_region ?_
    refine KV (R_move rfl) rfl ?_
    refine KV (R_assign rfl) rfl ?_
    refine K_nil ?_
    refine Q_then ?_
    refine K_ret ?_
    refine results_gen (rs := [.tmp 2]) (vs := [_]) rfl ⟨rfl, trivial⟩ ?_
    rcases hw with ⟨h0, rfl⟩ | ⟨h0, x, wa, wc, hbx, rfl, hxS, _⟩
    · have : l = [] := List.eq_nil_of_length_eq_zero (by omega)
      subst this
      exact ⟨⟨none, 0, rfl, .inl ⟨rfl, rfl⟩⟩, fun x hx => by cases hx⟩
    · rw [hk', List.take_length] at hbx
      rw [hbx]; exact hxS

theorem short32_spec (t : Tr) (H : View) (cs : List Value) (hb : t.size ≤ 1073741824) (hr : RepT H t cs) : Sat Tryz.prog F2010 #[.agg cs.toArray] H (fun r _ => r = .bool (decide (t.deep ≤ 5 ∧ t.size ≤ 7))) := by
  obtain ⟨x0, x1, x2, x3, rfl⟩ := hr.shape
  refine enterO (n := 11) (args := [.agg #[.int .i64 x0, .slice x1 x2 x3]]) Tryz.func14 rfl rfl rfl fun w0 => ?_
  refine K_seq ?_
  refine K_region ?_
  refine KA (A_box rfl) rfl fun b1 => ?_
  refine KV (R_assign rfl) rfl ?_
  refine K_nil ?_
  refine Q_then ?_
  refine K_seq ?_
  refine K_region ?_
  refine KV (R_loadO ty24 0 rfl rfl rfl rfl (fun e => by cases e) rfl) rfl ?_
  refine K_call c9 rfl rfl (deep_spec t.size t H _ (Nat.le_refl _) (by omega) hr) ?_
  rintro _ V1 hv1 rfl
  refine KV (R_cmp rfl rfl rfl) rfl ?_
  refine KV (R_move rfl) rfl ?_
  refine K_split ?_ ?_
  ·
    intro h6
    refine K_gyes rfl rfl ?_
    refine KV (R_loadO ty24 0 rfl rfl rfl rfl (fun e => by cases e) rfl) rfl ?_
    refine K_gyes rfl rfl ?_
    refine K_call c8 rfl rfl (size_spec t.size t V1 _ (Nat.le_refl _) (by omega) (hr.mono hv1)) ?_
    rintro _ V2 hv2 rfl
    refine K_gyes rfl rfl ?_
    refine KV (R_cmp rfl rfl rfl) rfl ?_
    refine KV (R_pickT rfl rfl) rfl ?_
    refine KV (R_assign rfl) rfl ?_
    refine K_nil ?_
    refine Q_then ?_
    refine K_ret ?_
    refine results_gen (rs := [.tmp 2]) (vs := [_]) rfl ⟨rfl, trivial⟩ ?_
    refine congrArg Value.bool ?_
    simp only [decide_eq_decide]
    omega
  ·
    intro h6
    refine K_gno rfl rfl rfl rfl ?_
    refine K_gno rfl rfl rfl rfl ?_
    refine K_gno rfl rfl rfl rfl ?_
    refine KV (R_pickF rfl rfl) rfl ?_
    refine KV (R_assign rfl) rfl ?_
    refine K_nil ?_
    refine Q_then ?_
    refine K_ret ?_
    refine results_gen (rs := [.tmp 2]) (vs := [_]) rfl ⟨rfl, trivial⟩ ?_
    refine congrArg Value.bool (Eq.symm (decide_eq_false ?_))
    omega
end Go.Proofs.X

namespace Go.Proofs.X
open Go Pal Go.Proofs
attribute [local irreducible] Pal.KO Pal.KC Pal.KQ Pal.KD

theorem rreach_spec (a : Au) (vr vu vf : Value) (t : Tr) (cs : List Value) (H : View) (ha : RepAu H a vr vu vf) (hr : RepT H t cs) (hok : AuOk a) (hN : a.rules.length ≤ 14) (hsz : t.size ≤ 7) (hst : a.states ≤ 1048576) : Sat Tryz.prog F2013 #[.agg #[vr, .int .i64 a.states, vu, vf], .agg cs.toArray] H (fun r H' => ∃ L, IsReach (sortO a.rules) t L ∧ SI H' r L ∧ L.length ≤ 1048576) := by
  obtain ⟨ra, rcp, rfl⟩ := ha.r.shape
  obtain ⟨fa, fcp, rfl⟩ := ha.f.shape
  obtain ⟨ua, ucp, rfl⟩ := ha.ushape
  have hrl := ha.rl
  have hul := ha.ul
  have hfl := ha.fl
  obtain ⟨x0, x1, x2, x3, rfl⟩ := hr.shape
  have har : ∀ r ∈ a.rules, r.args.length ≤ 1048576 := fun r hr => by
    obtain ⟨h1, h2, h3, _⟩ := hok.ru r hr
    have hlt : r.sym.toNat < a.ranks.length := by omega
    have h4 := (hok.rk r.sym.toNat hlt).2
    have h5 : a.ranks.getD r.sym.toNat 0 = a.ranks[r.sym.toNat] := by simp [List.getD, hlt]
    omega
  have hlr := sortR_len a.rules
  have hreach := reach_is hok t
  refine enterO (n := 50) (args := [.agg #[.slice ra a.ranks.length rcp, .int .i64 a.states, .slice ua a.rules.length ucp, .slice fa a.final.length fcp], .agg #[.int .i64 x0, .slice x1 x2 x3]]) Tryz.func22 rfl rfl rfl fun w0 => ?_
  refine K_seq ?_
  refine K_region ?_
  refine KA (A_box rfl) rfl fun b2 => ?_
  refine KA (A_box rfl) rfl fun b3 => ?_
  refine KV (R_assign rfl) rfl ?_
  refine K_nil ?_
  refine Q_then ?_
  refine K_seq ?_
  refine K_region ?_
  refine KV (R_assign rfl) rfl ?_
  refine K_nil ?_
  refine Q_then ?_
  refine K_seq ?_
  refine K_regionD (fin := false) (R := [0, 2, 1, 3, 4]) (by kernel_rfl) mixed (.cons_cons _ (.cons_cons _ (List.nil_sublist _))) ?_
  refine D_val rfl rfl rfl (R_loadW ty42 1 rfl rfl rfl rfl) ?_
  refine D_val rfl rfl rfl (R_loadW ty24 0 rfl rfl rfl rfl) ?_
  refine D_call rfl rfl c67 rfl ⟨⟨0, rfl⟩, ⟨1, rfl⟩, trivial⟩ (rsorted_spec a _ _ _ H ha (by omega) hst har) ?_
  rintro _ VS hvS ⟨s1, s2, s3, rfl, hS⟩
  refine D_call rfl rfl c2042 rfl ⟨⟨0, rfl⟩, ⟨1, rfl⟩, trivial⟩ (runs_spec a.ranks (sortedM a).final a.states (sortR a.rules) (by omega) t.size t VS s1 s2 s3 _ (Nat.le_refl _) hsz (hr.mono hvS) hS) ?_
  rintro vW V1 hv1 hW
  rw [sortR_eq hok.sameLen] at hW
  have hWs := ways_small (rs := sortO a.rules) (t := t) (by have := sortO_len a.rules; omega) hsz
  have hWl := Tr.ways_len (sortO a.rules) t
  have htp := t.size_pos
  obtain ⟨wya, wyc, rfl⟩ := hW.shape
  refine D_val rfl rfl rfl (R_assign rfl) ?_
  refine D_done ?_
  refine Q_then ?_
  refine K_seq ?_
  refine K_seq ?_
  obtain ⟨W, hW0⟩ : ∃ W, t.ways (sortO a.rules) = W := ⟨_, rfl⟩
  rw [hW0] at hW hWs hWl hreach
  rw [hW0]
  refine K_region ?_
  refine KV (R_assign rfl) rfl ?_
  refine K_nil ?_
  refine Q_then ?_
  refine K_block ?_
  refine K_nilrow T3 1 ?_
  refine K_loopD (G := Nat × Value) [5, 7, 8, 13, 14, 15, 16, 17, 18, 19, 20, 21, 22, 23, 24, 25, 26, 27, 28, 29, 30, 31, 32, 33, 34, 35, 36, 37, 38, 39, 40, 41, 42, 43, 44, 45, 46, 47, 48] (fun g => [(7, .int .i64 (g.1 : Int)), (5, g.2)]) (fun hl g => (hl.set 0 (row g.2 T3 1 (subL g.1 (hasEnd W)).length (ints (subL g.1 (hasEnd W)))))) (fun g => V1) (fun g => (g.1 ≤ a.states.toNat) ∧ (∃ x y, g.2 = .slice x (subL g.1 (hasEnd W)).length y)) (fun g => a.states.toNat - g.1) (0, nilS) ⟨Nat.zero_le _, ⟨none, 0, rfl⟩⟩ ⟨rfl, rfl, trivial⟩ (by simp only [args0, Nat.reduceAdd, del, memN, beqN, Nat.reduceBEq, cond_true, cond_false]; rfl) rfl rfl ?_
  rintro ⟨s, vo⟩ ⟨hs, hvo⟩
  dsimp only at hs hvo
  dsimp only [List.set, List.cons_append, List.nil_append]
  obtain ⟨oa, oc, rfl⟩ := hvo
  refine K_seq ?_
  refine K_seq ?_
  refine K_region ?_
  refine KV (R_move rfl) rfl ?_
  refine KV (R_fieldAddr 1 fd42_1 rfl) rfl ?_
  refine KV (R_loadO ty3 2 rfl rfl rfl rfl (fun _ => rfl) rfl) rfl ?_
  refine KV (R_cmp rfl rfl rfl) rfl ?_
  refine K_nil ?_
  refine Q_then ?_
  refine K_if rfl (fun h16 => ?_) (fun h16 => ?_)
  ·
    have hs' : s < a.states.toNat := by omega
    refine K_skip ?_
    refine Q_then ?_
    refine K_seq ?_
    refine K_block ?_
    refine K_seq ?_
    refine K_region ?_
    refine KV (R_assign rfl) rfl ?_
    refine K_nil ?_
    refine Q_then ?_
    refine K_block ?_
    refine K_loopD (G := Nat × Value) [5, 8, 19, 20, 21, 22, 23, 24, 25, 26, 27, 28, 29, 30, 31, 32, 33, 34, 35, 36, 37, 38, 39, 40, 41, 42, 43, 44, 45, 46, 47, 48] (fun g => [(8, .int .i64 (g.1 : Int)), (5, g.2)]) (fun hl g => (hl.set 0 (row g.2 T3 1 (outR s (hasEnd W) (hasEnd (W.take g.1) s)).length (ints (outR s (hasEnd W) (hasEnd (W.take g.1) s)))))) (fun g => V1) (fun g => (g.1 ≤ W.length) ∧ (∃ x y, g.2 = .slice x (outR s (hasEnd W) (hasEnd (W.take g.1) s)).length y)) (fun g => W.length - g.1) (0, .slice oa (subL s (hasEnd W)).length oc) (by dsimp only; rw [show outR s (hasEnd W) (hasEnd (W.take 0) s) = subL s (hasEnd W) ++ [] from rfl, List.append_nil]; exact ⟨Nat.zero_le _, _, _, rfl⟩) ⟨rfl, rfl, trivial⟩ (by simp only [args0, Nat.reduceAdd, del, memN, beqN, Nat.reduceBEq, cond_true, cond_false]; rfl) (by dsimp only [List.set]; rw [show outR s (hasEnd W) (hasEnd (W.take 0) s) = subL s (hasEnd W) ++ [] from rfl, List.append_nil]) rfl ?_
    rintro ⟨i, vo2⟩ ⟨hi, hvo2⟩
    dsimp only at hi hvo2
    dsimp only [List.set, List.cons_append, List.nil_append]
    obtain ⟨oa2, oc2, rfl⟩ := hvo2
    have hol0 : (outR s (hasEnd W) (hasEnd (W.take i) s)).length ≤ s + 1 := by
      unfold outR
      have := subL_len s (hasEnd W)
      rw [List.length_append]
      split <;> simp <;> omega
    have hol : (outR s (hasEnd W) (hasEnd (W.take i) s)).length ≤ 1099511627776 := by omega
    have hoi : ∀ x ∈ outR s (hasEnd W) (hasEnd (W.take i) s), i64ok x := by
      intro x hx
      unfold outR at hx
      rcases List.mem_append.1 hx with hx | hx
      · simp only [subL, List.mem_map, List.mem_filter, List.mem_range] at hx
        obtain ⟨q, ⟨hq, _⟩, rfl⟩ := hx
        unfold i64ok; omega
      · split at hx
        · simp at hx; subst hx; unfold i64ok; omega
        · cases hx
    refine K_seq ?_
    refine K_seq ?_
    refine K_region ?_
    refine KV (R_move rfl) rfl ?_
    refine KV (R_move rfl) rfl ?_
    refine KV (R_len sl44 rfl) rfl ?_
    refine KV (R_cmp rfl rfl rfl) rfl ?_
    refine K_nil ?_
    refine Q_then ?_
    refine K_if rfl (fun h22 => ?_) (fun h22 => ?_)
    ·
      have hi' : i < W.length := by omega
      obtain ⟨lb0, lo0, lxa, lxc, hle0, hlA, hlS⟩ := hW.get hi'
      cases hle0
      have hlz := hWl W[i] (List.getElem_mem hi')
      have hlp : 0 < W[i].length := by omega
      obtain ⟨lb, lo, hle1, hla⟩ := hlS.get (i := W[i].length - 1) (by omega)
      cases hle1
      have hlast : At V1 lb (lo + (((W[i].length : Nat) : Int) - 1).toNat * 1) [.int .i64 (lastI W[i])] := by rw [show (((W[i].length : Nat) : Int) - 1).toNat = W[i].length - 1 by omega, lastI_at hlp]; exact hla
      refine K_skip ?_
      refine Q_then ?_
      refine K_seq ?_
      refine K_block ?_
      refine K_seq ?_
      refine K_regionD (fin := false) (R := [0, 1, 2, 3, 4, 5, 6, 7, 8, 9, 10, 11, 12, 13, 14, 15, 16, 17, 18, 19]) (by kernel_rfl) mixed (.cons _ (.cons_cons _ (.cons_cons _ (List.nil_sublist _)))) ?_
      refine D_val rfl rfl rfl (R_move rfl) ?_
      refine D_val rfl rfl rfl (R_move rfl) ?_
      refine D_val rfl rfl rfl (R_indexN sl44 ty25 rfl rfl (by omega)) ?_
      refine D_val rfl rfl rfl (R_loadH ty25 rfl (hlA) rfl (fun _ => rfl) rfl) ?_
      refine D_val rfl rfl rfl (R_move rfl) ?_
      refine D_val rfl rfl rfl (R_move rfl) ?_
      refine D_val rfl rfl rfl (R_indexN sl44 ty25 rfl rfl (by omega)) ?_
      refine D_val rfl rfl rfl (R_loadH ty25 rfl (hlA) rfl (fun _ => rfl) rfl) ?_
      refine D_val rfl rfl rfl (R_len sl25 rfl) ?_
      refine D_val rfl rfl rfl (R_sub rfl rfl (by omega)) ?_
      refine D_val rfl rfl rfl (R_index sl25 ty3 rfl rfl ⟨by omega, by omega⟩) ?_
      refine D_val rfl rfl rfl (R_loadH ty3 rfl (hlast) rfl (fun _ => rfl) rfl) ?_
      refine D_val rfl rfl rfl (R_move rfl) ?_
      refine D_val rfl rfl rfl (R_cmp rfl rfl rfl) ?_
      refine D_val rfl rfl rfl (R_move rfl) ?_
      refine D_split ?_ ?_
      ·
        intro h39
        refine D_val rfl rfl rfl (R_move rfl) ?_
        refine D_val rfl rfl rfl (R_move rfl) ?_
        refine D_callO (first := []) [_] _ rfl rfl c62 rfl rfl (List.Perm.refl _) ⟨⟨0, rfl⟩, ⟨1, rfl⟩, trivial⟩ (Sat.lend (row (.slice oa2 (outR s (hasEnd W) (hasEnd (W.take i) s)).length oc2) T3 1 (outR s (hasEnd W) (hasEnd (W.take i) s)).length (ints (outR s (hasEnd W) (hasEnd (W.take i) s)))) fun H2 hle hh => rhas_spec (s : Int) (outR s (hasEnd W) (hasEnd (W.take i) s)) _ H2 (row_SI hh hoi) hol) ?_
        rintro _ V2 q42 hv2 ⟨rfl, rfl, rfl⟩
        dsimp only [List.cons_append, List.nil_append, List.eraseIdx]
        refine D_val rfl rfl rfl (R_notP rfl) ?_
        refine D_val rfl rfl rfl (R_pickT rfl rfl) ?_
        refine D_done ?_
        refine Q_then ?_
        refine K_if rfl (fun h44 => ?_) (fun h44 => ?_)
        ·
          refine K_region ?_
          refine KV (R_move rfl) rfl ?_
          refine KV (R_move rfl) rfl ?_
          refine KA (A_buildSlice (vs := [.int .i64 (s : Int)]) sl25 ty3 z3 rfl rfl (by simp [Value.cells]) (by simp) rfl (by decide)) rfl fun b47 => ?_
          refine K_append1 0 ap25 rfl rfl rfl rfl rfl rfl ⟨by omega, by omega⟩ rfl fun a48 k48 hn48 => ?_
          refine KV (R_assign rfl) rfl ?_
          refine K_nil ?_
          refine Q_block ?_
          refine Q_then ?_
          refine K_region ?_
          refine KV (R_move rfl) rfl ?_
          refine KV (R_add rfl rfl (by omega)) rfl ?_
          refine KV (R_assign rfl) rfl ?_
          refine K_nil ?_
          have hfl0 : hasEnd (W.take i) s = false := by cases h : hasEnd (W.take i) s with | false => rfl | true => exact absurd (outR_mem.2 h) h44
          have hON : outR s (hasEnd W) (hasEnd (W.take (i + 1)) s) = (outR s (hasEnd W) (hasEnd (W.take i) s)) ++ [(s : Int)] := by
            rw [hasEnd_snoc hi', hfl0, decide_eq_true h39]
            simp [outR]
          have hOL : (outR s (hasEnd W) (hasEnd (W.take (i + 1)) s)).length = (outR s (hasEnd W) (hasEnd (W.take i) s)).length + 1 := (congrArg List.length hON).trans List.length_append
          refine Q_nextD (i + 1, .slice a48 ((outR s (hasEnd W) (hasEnd (W.take i) s)).length + 1) k48) ⟨hi', ⟨_, _, by rw [hOL]⟩⟩ (by (try dsimp only); omega) ⟨rfl, rfl, trivial⟩ rfl (by dsimp only [List.set]; rw [hOL, hON, ints_append]; rfl) rfl
        ·
          refine K_skip ?_
          refine Q_block ?_
          refine Q_then ?_
          refine K_region ?_
          refine KV (R_move rfl) rfl ?_
          refine KV (R_add rfl rfl (by omega)) rfl ?_
          refine KV (R_assign rfl) rfl ?_
          refine K_nil ?_
          have hON : outR s (hasEnd W) (hasEnd (W.take (i + 1)) s) = outR s (hasEnd W) (hasEnd (W.take i) s) := by
            have : hasEnd (W.take i) s = true := outR_mem.1 (Decidable.not_not.1 h44)
            rw [hasEnd_snoc hi', this]; rfl
          refine Q_nextD (i + 1, .slice oa2 (outR s (hasEnd W) (hasEnd (W.take i) s)).length oc2) ⟨hi', ⟨_, _, by rw [hON]⟩⟩ (by (try dsimp only); omega) ⟨rfl, rfl, trivial⟩ rfl (by dsimp only [List.set]; rw [hON]) rfl
      ·
        intro h39
        refine D_skip rfl rfl ?_
        refine D_skip rfl rfl ?_
        refine D_skip rfl rfl ?_
        refine D_skip rfl rfl ?_
        refine D_val rfl rfl rfl (R_pickF rfl rfl) ?_
        refine D_done ?_
        refine Q_then ?_
        refine K_ifF rfl ?_
        refine K_skip ?_
        refine Q_block ?_
        refine Q_then ?_
        refine K_region ?_
        refine KV (R_move rfl) rfl ?_
        refine KV (R_add rfl rfl (by omega)) rfl ?_
        refine KV (R_assign rfl) rfl ?_
        refine K_nil ?_
        have hON : outR s (hasEnd W) (hasEnd (W.take (i + 1)) s) = outR s (hasEnd W) (hasEnd (W.take i) s) := by
          rw [hasEnd_snoc hi', decide_eq_false h39, Bool.or_false]
        refine Q_nextD (i + 1, .slice oa2 (outR s (hasEnd W) (hasEnd (W.take i) s)).length oc2) ⟨hi', ⟨_, _, by rw [hON]⟩⟩ (by (try dsimp only); omega) ⟨rfl, rfl, trivial⟩ rfl (by dsimp only [List.set]; rw [hON]) rfl
    ·
      have hi' : i = W.length := by omega
      have hE : outR s (hasEnd W) (hasEnd (W.take i) s) = subL (s + 1) (hasEnd W) := by rw [hi', List.take_length, subL_step]
      refine K_exit ?_
      refine Q_then_exit ?_
      refine Q_then_exit ?_
      refine Q_block_exit ?_
      refine Q_block ?_
      refine Q_then ?_
      refine K_region ?_
      refine KV (R_move rfl) rfl ?_
      refine KV (R_add rfl rfl (by omega)) rfl ?_
      refine KV (R_assign rfl) rfl ?_
      refine K_nil ?_
      refine Q_nextD (s + 1, .slice oa2 (outR s (hasEnd W) (hasEnd (W.take i) s)).length oc2) ⟨hs', ⟨_, _, by rw [hE]⟩⟩ (by (try dsimp only); omega) ⟨rfl, rfl, trivial⟩ rfl (by dsimp only [List.set]; rw [hE]) rfl
  ·
    have hs' : s = a.states.toNat := by omega
    refine K_exit ?_
    refine Q_then_exit ?_
    refine Q_then_exit ?_
    refine Q_block_exit ?_
    refine Q_then ?_
    refine K_seq ?_
    refine K_region ?_
    refine KV (R_move rfl) rfl ?_
    refine KV (R_assign rfl) rfl ?_
    refine K_nil ?_
    refine Q_then ?_
    refine K_ret ?_
    refine KQ_pubrow rfl fun Hp hp hrow => ?_
    refine results_gen (rs := [.tmp 4]) (vs := [_]) rfl ⟨rfl, trivial⟩ ?_
    rw [hs'] at hrow
    refine ⟨_, hreach, ⟨by rw [hs']; exact hrow.sl, fun x hx => ?_⟩, Nat.le_trans (subL_len _ _) (by omega)⟩
    simp only [subL, List.mem_map, List.mem_filter, List.mem_range] at hx
    obtain ⟨q, ⟨hq, _⟩, rfl⟩ := hx
    unfold i64ok; omega
end Go.Proofs.X

namespace Go.Proofs.X
open Go Pal Go.Proofs
attribute [local irreducible] Pal.KO Pal.KC Pal.KQ Pal.KD
theorem c2012 : callable Tryz.prog F2012 = true := by kernel_rfl
theorem c2015 : callable Tryz.prog F2015 = true := by kernel_rfl
theorem c2016 : callable Tryz.prog F2016 = true := by kernel_rfl
theorem c2018 : callable Tryz.prog F2018 = true := by kernel_rfl
theorem known32_spec (H : View) : Sat Tryz.prog F2009 #[] H (fun v _ => v = .bool true) := by
  refine enterO (n := 63) (args := []) Tryz.func12 rfl rfl rfl fun w0 => ?_
  refine K_seq ?_
  refine K_region ?_
  refine KV (R_assign rfl) rfl ?_
  refine K_nil ?_
  refine Q_then ?_
  refine K_seq ?_
  refine K_region ?_
  refine KA (A_buildSlice (vs := [.int .i64 0, .int .i64 2]) sl47 ty3 z3 rfl rfl (by simp [Value.cells]) (by simp) rfl (by decide)) rfl fun b8 => ?_
  refine KV (R_build z85 pl85 rfl rfl) rfl ?_
  refine KV (R_build z85 pl85 rfl rfl) rfl ?_
  refine KA (A_buildSlice (vs := [.int .i64 0, .int .i64 1]) sl25 ty3 z3 rfl rfl (by simp [Value.cells]) (by simp) rfl (by decide)) rfl fun b11 => ?_
  refine KV (R_build z85 pl85 rfl rfl) rfl ?_
  refine KA (A_buildSlice (vs := [.agg #[.int .i64 0, .slice none 0 0, .int .i64 0], .agg #[.int .i64 0, .slice none 0 0, .int .i64 1], .agg #[.int .i64 1, slc 2 b11, .int .i64 1]]) sl48 ty85 z85 rfl rfl (by simp [Value.cells]) (by simp) rfl (by decide)) rfl fun b13 => ?_
  refine KA (A_buildSlice (vs := [.int .i64 1]) sl25 ty3 z3 rfl rfl (by simp [Value.cells]) (by simp) rfl (by decide)) rfl fun b14 => ?_
  refine KV (R_build z50 pl50 rfl rfl) rfl ?_
  refine KA (A_alloc z50) rfl fun b1 => ?_
  refine K_storeW ty50 0 rfl rfl rfl rfl rfl rfl rfl ?_
  refine K_nil ?_
  refine KQ_front 1 rfl ?_
  refine KQ_pubnew (by simp [feet]) fun V1 hv1 hb14 => ?_
  refine KQ_front 1 rfl ?_
  refine KQ_pubnew (by simp [feet]) fun V2 hv2 hb13 => ?_
  refine KQ_front 1 rfl ?_
  refine KQ_pubnew (by simp [feet]) fun V3 hv3 hb11 => ?_
  refine KQ_front 1 rfl ?_
  refine KQ_pubnew (by simp [feet]) fun V4 hv4 hb8 => ?_
  have hi : ∀ x : Int, x = 0 ∨ x = 1 ∨ x = 2 → i64ok x := by intro x hx; simp only [i64ok]; omega
  have hsn : ∀ V, SI V (.slice none 0 0) [] := fun V => ⟨⟨none, 0, rfl, .inl ⟨rfl, rfl⟩⟩, by simp⟩
  have hs9 : SI V4 (slc 2 b11) [0, 1] := ⟨⟨_, _, rfl, .inr ⟨b11, 0, rfl, (At.of hb11).mono hv4⟩⟩, fun x hx => hi x (by simp at hx; omega)⟩
  have hrep : RepAu V4 knownA (slc 2 b8) (slc 3 b13) (slc 1 b14) := by
    refine ⟨⟨⟨_, _, rfl, .inr ⟨b8, 0, rfl, At.of hb8⟩⟩, fun x hx => hi x (by simp [knownA] at hx; omega)⟩, ⟨_, ⟨_, _, rfl, .inr ⟨b13, 0, rfl, (At.of hb13).mono (hv3.trans hv4)⟩⟩, ?_⟩, ⟨⟨_, _, rfl, .inr ⟨b14, 0, rfl, (At.of hb14).mono (hv2.trans (hv3.trans hv4))⟩⟩, fun x hx => hi x (by simp [knownA] at hx; omega)⟩, hi 2 (by simp), by decide, by decide, by decide⟩
    have r1 : RepR V4 ⟨0, [], 0⟩ [.int .i64 0, .slice none 0 0, .int .i64 0] := ⟨none, 0, rfl, hsn _, hi 0 (by simp), hi 0 (by simp), by decide⟩
    have r2 : RepR V4 ⟨0, [], 1⟩ [.int .i64 0, .slice none 0 0, .int .i64 1] := ⟨none, 0, rfl, hsn _, hi 0 (by simp), hi 1 (by simp), by decide⟩
    have r3 : RepR V4 ⟨1, [0, 1], 1⟩ [.int .i64 1, slc 2 b11, .int .i64 1] := ⟨_, _, rfl, hs9, hi 1 (by simp), hi 1 (by simp), by decide⟩
    exact ((RepL.one r1 rfl).snoc r2 rfl).snoc r3 rfl
  have hkr : knownA.ranks.length ≤ 1048576 := by decide
  refine Q_then ?_
  refine K_seq ?_
  refine K_region ?_
  refine KV (R_build z30 pl30 rfl rfl) rfl ?_
  refine KV (R_build z30 pl30 rfl rfl) rfl ?_
  refine KA (A_buildSlice (vs := [.agg #[.int .i64 0, .slice none 0 0], .agg #[.int .i64 0, .slice none 0 0]]) sl28 ty30 z30 rfl rfl (by simp [Value.cells]) (by simp) rfl (by decide)) rfl fun b18 => ?_
  refine KV (R_build z30 pl30 rfl rfl) rfl ?_
  refine KA (A_alloc z30) rfl fun b2 => ?_
  refine K_storeW ty30 0 rfl rfl rfl rfl rfl rfl rfl ?_
  refine K_nil ?_
  refine KQ_front 1 rfl ?_
  refine KQ_pubnew (by simp [feet]) fun V5 hv5 hb18 => ?_
  have hkt : RepT V5 kT [.int .i64 1, slc 2 b18] := repT_kT V5 b18 hb18 rfl
  have hks : kT.size ≤ 1048576 := by decide
  refine Q_then ?_
  refine K_seq ?_
  refine K_region ?_
  refine KV (R_loadW ty50 1 rfl rfl rfl rfl) rfl ?_
  refine KV (R_loadW ty30 0 rfl rfl rfl rfl) rfl ?_
  refine K_call c2015 rfl rfl (leastrun_spec knownA _ _ _ kT _ V5 (hrep.mono hv5) hkr hkt hks) ?_
  rintro _ V6 hv6 ⟨w, is, rfl, _, hL⟩
  obtain ⟨hB, rfl⟩ := hL kv_ask
  clear hL
  rw [kv_ask]
  rw [kv_best] at hB ⊢
  obtain ⟨x, wa, wc, hx, rfl, hwS, _⟩ : ∃ x wa wc, some [0, 1, 1] = some x ∧ w = .slice (some wa) x.length wc ∧ SI V6 w x ∧ x.length ≤ 1048577 := hB.resolve_left (fun h => by cases h.1)
  cases hx
  refine KV (R_move rfl) rfl ?_
  refine KV (R_extract rfl rfl) rfl ?_
  refine KV (R_extract rfl rfl) rfl ?_
  refine KV (R_extract rfl rfl) rfl ?_
  refine KV (R_assign rfl) rfl ?_
  refine KV (R_assign rfl) rfl ?_
  refine KV (R_assign rfl) rfl ?_
  refine K_nil ?_
  refine Q_then ?_
  refine K_seq ?_
  refine K_region ?_
  refine KV (R_loadW ty50 1 rfl rfl rfl rfl) rfl ?_
  refine KV (R_loadW ty30 0 rfl rfl rfl rfl) rfl ?_
  refine K_call c2016 rfl rfl (countruns_spec knownA _ _ _ kT _ V6 (hrep.mono (hv5.trans hv6)) hkr (hkt.mono hv6) hks) ?_
  rintro _ V7 hv7 ⟨n, rfl, _, hC⟩
  have hC := hC kv_ask
  rw [kv_ask]
  rw [kv_cnt] at hC
  obtain ⟨na, nk, nc, rfl, hN⟩ := hC
  refine KV (R_move rfl) rfl ?_
  refine KV (R_extract rfl rfl) rfl ?_
  refine KV (R_extract rfl rfl) rfl ?_
  refine KA (A_alloc z2009) rfl fun b6 => ?_
  refine K_storeW ty2009 0 rfl rfl rfl rfl rfl rfl rfl ?_
  refine KV (R_assign rfl) rfl ?_
  refine K_nil ?_
  refine Q_then ?_
  refine K_seq ?_
  refine K_regionD (fin := false) (R := [0, 1, 2, 3, 4, 5, 6, 7, 8, 9, 10, 11, 12, 13, 14, 15, 16, 17, 18, 19, 20, 21, 22, 23, 24, 25, 26, 27, 28, 29, 30]) (by kernel_rfl) mixed (.cons_cons _ (.cons_cons _ (.cons_cons _ (List.nil_sublist _)))) ?_
  refine D_val rfl rfl rfl (R_move rfl) ?_
  refine D_val rfl rfl rfl (R_move rfl) ?_
  refine D_splitB ?_ ?_
  ·
    intro h34
    refine D_val rfl rfl rfl (R_move rfl) ?_
    refine D_val rfl rfl rfl (R_cmp rfl rfl rfl) ?_
    refine D_val rfl rfl rfl (R_pickT rfl rfl) ?_
    refine D_val rfl rfl rfl (R_move rfl) ?_
    refine D_split ?_ ?_
    ·
      intro h38
      refine D_val rfl rfl rfl (R_move rfl) ?_
      refine D_val rfl rfl rfl (R_cmp rfl rfl rfl) ?_
      refine D_val rfl rfl rfl (R_pickT rfl rfl) ?_
      refine D_val rfl rfl rfl (R_move rfl) ?_
      refine D_split ?_ ?_
      ·
        intro h42
        refine D_val rfl rfl rfl (R_loadW ty2009 0 rfl rfl rfl rfl) ?_
        refine D_call rfl rfl c2019 rfl ⟨⟨0, rfl⟩, ⟨1, rfl⟩, ⟨2, rfl⟩, trivial⟩ (fromU_spec 1 (by decide) V7) ?_
        rintro _ V8 hv8 ⟨ma, mk, mc, rfl, hM⟩
        refine D_call rfl rfl c2018 rfl ⟨⟨0, rfl⟩, ⟨1, rfl⟩, ⟨2, rfl⟩, trivial⟩ (eqN_spec 1 1 _ _ V8 (hN.mono hv8) hM (by decide)) ?_
        rintro _ V9 hv9 rfl
        refine D_val rfl rfl rfl (R_pickT rfl rfl) ?_
        refine D_val rfl rfl rfl (R_move rfl) ?_
        refine D_split ?_ ?_
        ·
          intro h47
          refine D_val rfl rfl rfl (R_move rfl) ?_
          refine D_alloc rfl rfl rfl (A_buildSlice (vs := [.int .i64 0, .int .i64 1, .int .i64 1]) sl25 ty3 z3 rfl rfl (by simp [Value.cells]) (by simp) rfl (by decide)) fun b49 => ?_
          refine D_callO (first := []) [_] _ rfl rfl c60 rfl rfl (List.Perm.refl _) ⟨⟨0, rfl⟩, ⟨1, rfl⟩, ⟨2, rfl⟩, trivial⟩ (Sat.lend (blk b49 (.cells #[.int .i64 0, .int .i64 1, .int .i64 1] T3 (0, 0))) fun H2 hle hh => cmpl_spec [0, 1, 1] [0, 1, 1] _ _ H2 (hwS.mono (hv7.trans (hv8.trans (hv9.trans hle)))) ⟨⟨_, _, rfl, .inr ⟨b49, 0, rfl, At.of hh⟩⟩, fun x hx => hi x (by simp at hx; omega)⟩ (by decide) (by decide)) ?_
          rintro _ V10 q50 hv10 ⟨rfl, rfl, rfl⟩
          dsimp only [List.cons_append, List.nil_append]
          refine D_val rfl rfl rfl (R_cmp rfl rfl rfl) ?_
          refine D_val rfl rfl rfl (R_pickT rfl rfl) ?_
          refine D_val rfl rfl rfl (R_move rfl) ?_
          refine D_split ?_ ?_
          ·
            intro h53
            refine D_val rfl rfl rfl (R_loadW ty50 2 rfl rfl rfl rfl) ?_
            refine D_val rfl rfl rfl (R_loadW ty30 1 rfl rfl rfl rfl) ?_
            refine D_call rfl rfl c2012 rfl ⟨⟨1, rfl⟩, ⟨2, rfl⟩, ⟨3, rfl⟩, trivial⟩ (accepts_spec knownA _ _ _ kT _ V10 (hrep.mono (hv5.trans (hv6.trans (hv7.trans (hv8.trans hv9))))) hkr (hkt.mono (hv6.trans (hv7.trans (hv8.trans hv9)))) hks) ?_
            rintro _ V11 hv11 rfl
            rw [kv_acc]
            refine D_val rfl rfl rfl (R_pickT rfl rfl) ?_
            refine D_val rfl rfl rfl (R_move rfl) ?_
            refine D_splitB ?_ ?_
            ·
              intro h58
              refine D_val rfl rfl rfl (R_loadW ty50 2 rfl rfl rfl rfl) ?_
              refine D_val rfl rfl rfl (R_build z30 pl30 rfl rfl) ?_
              refine D_call rfl rfl c2012 rfl ⟨⟨1, rfl⟩, ⟨2, rfl⟩, ⟨3, rfl⟩, trivial⟩ (accepts_spec knownA _ _ _ kLeaf [.int .i64 0, .slice none 0 0] V11 (hrep.mono (hv5.trans (hv6.trans (hv7.trans (hv8.trans (hv9.trans hv11)))))) hkr (repT_leaf _ 0 (hi 0 (by simp))) (by decide)) ?_
              rintro _ V12 hv12 rfl
              rw [kv_leaf]
              refine D_val rfl rfl rfl (R_pickT rfl rfl) ?_
              refine D_val rfl rfl rfl (R_assign rfl) ?_
              refine D_done ?_
              refine Q_then ?_
              refine K_ret ?_
              refine results_gen (rs := [.tmp 0]) (vs := [_]) rfl ⟨rfl, trivial⟩ ?_
              rfl
            ·
              intro h58
              exact absurd h58 (by decide)
          ·
            intro h53
            exact absurd (by decide) h53
        ·
          intro h47
          exact absurd (by decide) h47
      ·
        intro h42
        exact absurd (by decide) h42
    ·
      intro h38
      exact absurd (by decide) h38
  ·
    intro h34
    exact absurd h34 (by decide)
end Go.Proofs.X

namespace Go.Proofs.X
open Go Pal Go.Proofs
attribute [local irreducible] Pal.KO Pal.KC Pal.KQ Pal.KD
theorem c15 : callable Tryz.prog F15 = true := by kernel_rfl
theorem c17 : callable Tryz.prog F17 = true := by kernel_rfl
theorem c20 : callable Tryz.prog F20 = true := by kernel_rfl
theorem c39 : callable Tryz.prog F39 = true := by kernel_rfl
theorem c2009 : callable Tryz.prog F2009 = true := by kernel_rfl
theorem c2010 : callable Tryz.prog F2010 = true := by kernel_rfl
theorem c2013 : callable Tryz.prog F2013 = true := by kernel_rfl
theorem c2014 : callable Tryz.prog F2014 = true := by kernel_rfl
theorem nreach_law (a : Au) (t : Tr) (vr vu vf : Value) (H : View) (cs : List Value) (ha : RepAu H a vr vu vf) (hr : RepT H t cs) (hb : t.size ≤ 1048576) : Sat Tryz.prog F2000 #[.agg #[vr, .int .i64 a.states, vu, vf], .agg cs.toArray] H (fun v _ => v = .bool true) := by
  obtain ⟨ra, rcp, rfl⟩ := ha.r.shape
  obtain ⟨fa, fcp, rfl⟩ := ha.f.shape
  obtain ⟨ua, ucp, rfl⟩ := ha.ushape
  obtain ⟨x0, x1, x2, x3, rfl⟩ := hr.shape
  refine enterO (n := 75) (args := [.agg #[.slice ra a.ranks.length rcp, .int .i64 a.states, .slice ua a.rules.length ucp, .slice fa a.final.length fcp], .agg #[.int .i64 x0, .slice x1 x2 x3]]) Tryz.func3 rfl rfl rfl fun w0 => ?_
  refine K_seq ?_
  refine K_region ?_
  refine KA (A_box rfl) rfl fun b2 => ?_
  refine KA (A_box rfl) rfl fun b3 => ?_
  refine KV (R_assign rfl) rfl ?_
  refine K_nil ?_
  refine Q_then ?_
  refine K_seq ?_
  refine K_seq ?_
  refine K_region ?_
  refine K_call c2009 rfl rfl (known32_spec _) ?_
  rintro _ V1 hv1 rfl
  refine KV (R_not rfl) rfl ?_
  refine K_nil ?_
  refine Q_then ?_
  refine K_ifB rfl (fun h9 => ?_) (fun h9 => ?_)
  ·
    cases h9
  ·
    refine K_skip ?_
    refine Q_then ?_
    refine K_seq ?_
    refine K_seq ?_
    refine K_region ?_
    refine KV (R_loadW ty42 1 rfl rfl rfl rfl) rfl ?_
    refine K_call c15 rfl rfl (few_spec a _ _ _ V1 (ha.mono hv1)) ?_
    rintro _ V2 hv2 rfl
    refine KV (R_notP rfl) rfl ?_
    refine KV (R_move rfl) rfl ?_
    refine K_split ?_ ?_
    ·
      intro h13
      refine K_gno rfl rfl rfl rfl ?_
      refine K_gno rfl rfl rfl rfl ?_
      refine K_gno rfl rfl rfl rfl ?_
      refine KV (R_pickT rfl rfl) rfl ?_
      refine K_nil ?_
      refine Q_then ?_
      refine K_ifT rfl ?_
      refine K_seq ?_
      refine K_region ?_
      refine KV (R_assign rfl) rfl ?_
      refine K_nil ?_
      refine Q_then ?_
      refine K_ret ?_
      refine Q_then_ret ?_
      refine results_gen (rs := [.tmp 4]) (vs := [_]) rfl ⟨rfl, trivial⟩ ?_
      first | rfl | (refine congrArg Value.bool ?_; simp)
    ·
      intro h13
      have hfew := Decidable.not_not.1 h13
      refine K_gyes rfl rfl ?_
      refine KV (R_loadW ty24 0 rfl rfl rfl rfl) rfl ?_
      refine K_gyes rfl rfl ?_
      refine K_call c2010 rfl rfl (short32_spec t V2 _ (by omega) (hr.mono (hv1.trans hv2))) ?_
      rintro _ V3 hv3 rfl
      refine K_gyes rfl rfl ?_
      refine KV (R_notP rfl) rfl ?_
      refine KV (R_pickF rfl rfl) rfl ?_
      refine K_nil ?_
      refine Q_then ?_
      refine K_if rfl (fun h17 => ?_) (fun h17 => ?_)
      ·
        refine K_seq ?_
        refine K_region ?_
        refine KV (R_assign rfl) rfl ?_
        refine K_nil ?_
        refine Q_then ?_
        refine K_ret ?_
        refine Q_then_ret ?_
        refine results_gen (rs := [.tmp 4]) (vs := [_]) rfl ⟨rfl, trivial⟩ ?_
        first | rfl | (refine congrArg Value.bool ?_; simp)
      ·
        have hsh := Decidable.not_not.1 h17
        refine K_skip ?_
        refine Q_then ?_
        refine K_seq ?_
        refine K_regionD (fin := false) (R := [0, 2, 1, 3, 4, 5, 6, 7, 8, 9]) (by kernel_rfl) mixed (.cons_cons _ (.cons_cons _ (List.nil_sublist _))) ?_
        refine D_val rfl rfl rfl (R_loadW ty42 1 rfl rfl rfl rfl) ?_
        refine D_val rfl rfl rfl (R_loadW ty24 0 rfl rfl rfl rfl) ?_
        refine D_call rfl rfl c17 rfl ⟨⟨0, rfl⟩, ⟨1, rfl⟩, trivial⟩ (to_spec a _ _ _ V3 (ha.mono (hv1.trans (hv2.trans hv3)))) ?_
        rintro _ V4 hv4 ⟨y1, y2, y3, rfl, hy⟩
        refine D_call rfl rfl c11 rfl ⟨⟨0, rfl⟩, ⟨1, rfl⟩, trivial⟩ (tree_spec t.size t V4 _ (Nat.le_refl _) (by omega) (hr.mono (((hv1.trans (hv2.trans hv3))).trans hv4))) ?_
        rintro _ V5 hv5 ⟨ds, rfl, hd⟩
        have hy2 := hy.mono hv5
        obtain ⟨d0, d1, d2, d3, rfl⟩ := hd.shape
        refine D_call rfl rfl c2011 rfl ⟨⟨0, rfl⟩, ⟨1, rfl⟩, trivial⟩ (reach_spec a _ _ _ t _ V5 hy2 (Nat.le_trans (show a.ranks.length ≤ 8 from hfew.1) (by decide)) hd (by omega)) ?_
        rintro _ V6 hv6 ⟨v, rfl, hvN, hvO⟩
        have hvA : VLe H V6 := hv1.trans (hv2.trans (hv3.trans (hv4.trans (hv5.trans hv6))))
        refine D_val rfl rfl rfl (R_move rfl) ?_
        refine D_val rfl rfl rfl (R_extract rfl rfl) ?_
        refine D_val rfl rfl rfl (R_extract rfl rfl) ?_
        refine D_val rfl rfl rfl (R_assign rfl) ?_
        refine D_val rfl rfl rfl (R_assign rfl) ?_
        refine D_done ?_
        refine Q_then ?_
        refine K_seq ?_
        refine K_region ?_
        refine KV (R_loadW ty42 1 rfl rfl rfl rfl) rfl ?_
        refine K_call c20 rfl rfl (rcheck_spec a _ _ _ V6 (ha.mono hvA)) ?_
        rintro _ V7 hv7 rfl
        have hvB := hvA.trans hv7
        refine KV (R_assign rfl) rfl ?_
        refine K_nil ?_
        refine Q_then ?_
        refine K_seq ?_
        refine K_seq ?_
        refine K_region ?_
        refine KV (R_move rfl) rfl ?_
        refine KV (R_cmp rfl rfl rfl) rfl ?_
        refine K_nil ?_
        refine Q_then ?_
        refine K_if rfl (fun h29 => ?_) (fun h29 => ?_)
        ·
          have hae : askErr a t = validErr a.ranks t := by unfold askErr; rw [if_neg (not_not_intro h29)]
          refine K_region ?_
          refine KV (R_fieldAddr 0 fd42_0 rfl) rfl ?_
          refine KV (R_loadO ty25 1 rfl rfl rfl rfl (fun _ => rfl) rfl) rfl ?_
          refine KV (R_loadW ty24 0 rfl rfl rfl rfl) rfl ?_
          refine K_call c39 rfl rfl (rvalid_spec a.ranks _ t V7 _ (Nat.le_trans (show a.ranks.length ≤ 8 from hfew.1) (by decide)) (by omega) (hr.mono hvB) (ha.mono hvB).r) ?_
          rintro _ V8 hv8 rfl
          refine KV (R_assign rfl) rfl ?_
          refine K_nil ?_
          have hvW := hvB.trans hv8
          have hvV := hv7.trans hv8
          refine Q_then ?_
          refine K_seq ?_
          refine K_seq ?_
          refine K_region ?_
          refine KV (R_move rfl) rfl ?_
          refine KV (R_cmp rfl rfl rfl) rfl ?_
          refine K_nil ?_
          refine Q_then ?_
          refine K_if rfl (fun h35 => ?_) (fun h35 => ?_)
          ·
            have hask : askErr a t ≠ 0 := by rw [hae]; exact h35
            obtain rfl := hvN hask
            refine K_seq ?_
            refine K_regionD (fin := false) (R := [0, 1, 2, 3, 4, 5, 6, 7, 8, 9, 11, 10, 12, 13, 14, 15, 16]) (by kernel_rfl) mixed (.cons_cons _ (.cons_cons _ (List.nil_sublist _))) ?_
            refine D_val rfl rfl rfl (R_move rfl) ?_
            refine D_val rfl rfl rfl (R_move rfl) ?_
            refine D_val rfl rfl rfl (R_cmp rfl rfl rfl) ?_
            refine D_val rfl rfl rfl (R_move rfl) ?_
            refine D_split ?_ ?_
            ·
              intro h39
              refine D_val rfl rfl rfl (R_move rfl) ?_
              refine D_val rfl rfl rfl (R_len sl25 rfl) ?_
              refine D_val rfl rfl rfl (R_cmp rfl rfl rfl) ?_
              refine D_val rfl rfl rfl (R_pickT rfl rfl) ?_
              refine D_val rfl rfl rfl (R_move rfl) ?_
              refine D_split ?_ ?_
              ·
                intro h44
                refine D_val rfl rfl rfl (R_loadW ty42 1 rfl rfl rfl rfl) ?_
                refine D_val rfl rfl rfl (R_loadW ty24 0 rfl rfl rfl rfl) ?_
                refine D_call rfl rfl c17 rfl ⟨⟨0, rfl⟩, ⟨1, rfl⟩, trivial⟩ (to_spec a _ _ _ _ (ha.mono hvW)) ?_
                rintro _ V9 hv9 ⟨y1, y2, y3, rfl, hy⟩
                refine D_call rfl rfl c11 rfl ⟨⟨0, rfl⟩, ⟨1, rfl⟩, trivial⟩ (tree_spec t.size t V9 _ (Nat.le_refl _) (by omega) (hr.mono ((hvW).trans hv9))) ?_
                rintro _ V10 hv10 ⟨ds, rfl, hd⟩
                have hy2 := hy.mono hv10
                obtain ⟨d0, d1, d2, d3, rfl⟩ := hd.shape
                refine D_call rfl rfl c2012 rfl ⟨⟨0, rfl⟩, ⟨1, rfl⟩, trivial⟩ (accepts_spec a _ _ _ t _ V10 hy2 (Nat.le_trans (show a.ranks.length ≤ 8 from hfew.1) (by decide)) hd (by omega)) ?_
                rintro _ V11 hv11 rfl
                rw [accA_no hask]
                refine D_val rfl rfl rfl (R_not rfl) ?_
                refine D_val rfl rfl rfl (R_pickT rfl rfl) ?_
                refine D_val rfl rfl rfl (R_assign rfl) ?_
                refine D_done ?_
                refine Q_then ?_
                refine K_ret ?_
                refine Q_then_ret ?_
                refine results_gen (rs := [.tmp 4]) (vs := [_]) rfl ⟨rfl, trivial⟩ ?_
                first | rfl | (refine congrArg Value.bool ?_; simp)
              ·
                intro h44
                exact absurd rfl h44
            ·
              intro h39
              exact absurd hae h39
          ·
            have hask0 : askErr a t = 0 := hae.trans (Decidable.not_not.1 h35)
            obtain ⟨L, hI, hS, hL⟩ := hvO hask0
            obtain ⟨la, lc, rfl⟩ := hS.shape
            obtain ⟨hok, _, _⟩ := askErr_zero hask0
            have hst : a.states ≤ 1048576 := by have := hfew.2.1; omega
            refine K_skip ?_
            refine Q_then ?_
            refine K_seq ?_
            refine K_regionD (fin := false) (R := [0, 1, 2, 3, 4, 5, 6, 7, 8, 9, 10, 11, 13, 16, 17, 12, 14, 15, 18, 19, 20, 21, 22, 23]) (by kernel_rfl) mixed (.cons_cons _ (.cons_cons _ (List.nil_sublist _))) ?_
            refine D_val rfl rfl rfl (R_move rfl) ?_
            refine D_val rfl rfl rfl (R_cmp rfl rfl rfl) ?_
            refine D_val rfl rfl rfl (R_move rfl) ?_
            refine D_split ?_ ?_
            ·
              intro h54
              refine D_val rfl rfl rfl (R_move rfl) ?_
              refine D_val rfl rfl rfl (R_loadW ty42 1 rfl rfl rfl rfl) ?_
              refine D_val rfl rfl rfl (R_loadW ty24 0 rfl rfl rfl rfl) ?_
              refine D_call rfl rfl c2013 rfl ⟨⟨0, rfl⟩, ⟨1, rfl⟩, trivial⟩ (rreach_spec a _ _ _ t _ _ (ha.mono hvW) (hr.mono hvW) hok hfew.2.2.1 hsh.2 hst) ?_
              rintro _ V9 hv9 ⟨L2, hI2, hS2, hl2⟩
              obtain rfl := hI.uniq hI2
              obtain ⟨sa, sc, rfl⟩ := hS2.shape
              refine D_call rfl rfl c60 rfl ⟨⟨0, rfl⟩, ⟨1, rfl⟩, trivial⟩ (cmpl_spec L L _ _ V9 ((hS.mono hvV).mono hv9) hS2 (by omega) (by omega)) ?_
              rintro _ V10 hv10 rfl
              rw [cmpL_self]
              refine D_val rfl rfl rfl (R_cmp rfl rfl rfl) ?_
              refine D_val rfl rfl rfl (R_pickT rfl rfl) ?_
              refine D_val rfl rfl rfl (R_move rfl) ?_
              refine D_split ?_ ?_
              ·
                intro h62
                refine D_val rfl rfl rfl (R_loadW ty42 1 rfl rfl rfl rfl) ?_
                refine D_val rfl rfl rfl (R_loadW ty24 0 rfl rfl rfl rfl) ?_
                refine D_val rfl rfl rfl (R_loadW ty42 1 rfl rfl rfl rfl) ?_
                refine D_val rfl rfl rfl (R_loadW ty24 0 rfl rfl rfl rfl) ?_
                refine D_call rfl rfl c17 rfl ⟨⟨0, rfl⟩, ⟨1, rfl⟩, trivial⟩ (to_spec a _ _ _ V10 (ha.mono (hvW.trans (hv9.trans hv10)))) ?_
                rintro _ V11 hv11 ⟨y1, y2, y3, rfl, hy⟩
                refine D_call rfl rfl c11 rfl ⟨⟨0, rfl⟩, ⟨1, rfl⟩, trivial⟩ (tree_spec t.size t V11 _ (Nat.le_refl _) (by omega) (hr.mono (hvW.trans (hv9.trans (hv10.trans hv11))))) ?_
                rintro _ V12 hv12 ⟨ds, rfl, hd⟩
                have hy2 := hy.mono hv12
                obtain ⟨d0, d1, d2, d3, rfl⟩ := hd.shape
                refine D_call rfl rfl c2012 rfl ⟨⟨0, rfl⟩, ⟨1, rfl⟩, trivial⟩ (accepts_spec a _ _ _ t _ V12 hy2 (Nat.le_trans (show a.ranks.length ≤ 8 from hfew.1) (by decide)) hd (by omega)) ?_
                rintro _ V13 hv13 rfl
                rw [accA_is hask0]
                refine D_call rfl rfl c2014 rfl ⟨⟨0, rfl⟩, ⟨1, rfl⟩, trivial⟩ (accepted_spec a _ _ _ t _ V13 (ha.mono (hvW.trans (hv9.trans (hv10.trans (hv11.trans (hv12.trans hv13)))))) (hr.mono (hvW.trans (hv9.trans (hv10.trans (hv11.trans (hv12.trans hv13)))))) hok hfew.2.2.1 hsh.2 hst) ?_
                rintro _ V14 hv14 hAc
                obtain ⟨za, zc, rfl⟩ := hAc.shape
                refine D_val rfl rfl rfl (R_len sl44 rfl) ?_
                refine D_val rfl rfl rfl (R_cmp rfl rfl rfl) ?_
                refine D_val rfl rfl rfl (R_boolEq (by kernel_rfl) rfl rfl) ?_
                refine D_val rfl rfl rfl (R_pickT rfl rfl) ?_
                refine D_val rfl rfl rfl (R_assign rfl) ?_
                refine D_done ?_
                refine Q_then ?_
                refine K_ret ?_
                refine results_gen (rs := [.tmp 4]) (vs := [_]) rfl ⟨rfl, trivial⟩ ?_
                first | rfl | (refine congrArg Value.bool ?_; simp)
              ·
                intro h62
                exact absurd rfl h62
            ·
              intro h54
              exact absurd hask0 h54
        ·
          have hae : askErr a t = auErr a := by unfold askErr; rw [if_pos h29]
          have hvW := hvB
          have hvV := hv7
          refine K_skip ?_
          refine Q_then ?_
          refine K_seq ?_
          refine K_seq ?_
          refine K_region ?_
          refine KV (R_move rfl) rfl ?_
          refine KV (R_cmp rfl rfl rfl) rfl ?_
          refine K_nil ?_
          refine Q_then ?_
          refine K_if rfl (fun h35 => ?_) (fun h35 => ?_)
          ·
            have hask : askErr a t ≠ 0 := by rw [hae]; exact h35
            obtain rfl := hvN hask
            refine K_seq ?_
            refine K_regionD (fin := false) (R := [0, 1, 2, 3, 4, 5, 6, 7, 8, 9, 11, 10, 12, 13, 14, 15, 16]) (by kernel_rfl) mixed (.cons_cons _ (.cons_cons _ (List.nil_sublist _))) ?_
            refine D_val rfl rfl rfl (R_move rfl) ?_
            refine D_val rfl rfl rfl (R_move rfl) ?_
            refine D_val rfl rfl rfl (R_cmp rfl rfl rfl) ?_
            refine D_val rfl rfl rfl (R_move rfl) ?_
            refine D_split ?_ ?_
            ·
              intro h39
              refine D_val rfl rfl rfl (R_move rfl) ?_
              refine D_val rfl rfl rfl (R_len sl25 rfl) ?_
              refine D_val rfl rfl rfl (R_cmp rfl rfl rfl) ?_
              refine D_val rfl rfl rfl (R_pickT rfl rfl) ?_
              refine D_val rfl rfl rfl (R_move rfl) ?_
              refine D_split ?_ ?_
              ·
                intro h44
                refine D_val rfl rfl rfl (R_loadW ty42 1 rfl rfl rfl rfl) ?_
                refine D_val rfl rfl rfl (R_loadW ty24 0 rfl rfl rfl rfl) ?_
                refine D_call rfl rfl c17 rfl ⟨⟨0, rfl⟩, ⟨1, rfl⟩, trivial⟩ (to_spec a _ _ _ _ (ha.mono hvW)) ?_
                rintro _ V9 hv9 ⟨y1, y2, y3, rfl, hy⟩
                refine D_call rfl rfl c11 rfl ⟨⟨0, rfl⟩, ⟨1, rfl⟩, trivial⟩ (tree_spec t.size t V9 _ (Nat.le_refl _) (by omega) (hr.mono ((hvW).trans hv9))) ?_
                rintro _ V10 hv10 ⟨ds, rfl, hd⟩
                have hy2 := hy.mono hv10
                obtain ⟨d0, d1, d2, d3, rfl⟩ := hd.shape
                refine D_call rfl rfl c2012 rfl ⟨⟨0, rfl⟩, ⟨1, rfl⟩, trivial⟩ (accepts_spec a _ _ _ t _ V10 hy2 (Nat.le_trans (show a.ranks.length ≤ 8 from hfew.1) (by decide)) hd (by omega)) ?_
                rintro _ V11 hv11 rfl
                rw [accA_no hask]
                refine D_val rfl rfl rfl (R_not rfl) ?_
                refine D_val rfl rfl rfl (R_pickT rfl rfl) ?_
                refine D_val rfl rfl rfl (R_assign rfl) ?_
                refine D_done ?_
                refine Q_then ?_
                refine K_ret ?_
                refine Q_then_ret ?_
                refine results_gen (rs := [.tmp 4]) (vs := [_]) rfl ⟨rfl, trivial⟩ ?_
                first | rfl | (refine congrArg Value.bool ?_; simp)
              ·
                intro h44
                exact absurd rfl h44
            ·
              intro h39
              exact absurd hae h39
          ·
            have hask0 : askErr a t = 0 := hae.trans (Decidable.not_not.1 h35)
            obtain ⟨L, hI, hS, hL⟩ := hvO hask0
            obtain ⟨la, lc, rfl⟩ := hS.shape
            obtain ⟨hok, _, _⟩ := askErr_zero hask0
            have hst : a.states ≤ 1048576 := by have := hfew.2.1; omega
            refine K_skip ?_
            refine Q_then ?_
            refine K_seq ?_
            refine K_regionD (fin := false) (R := [0, 1, 2, 3, 4, 5, 6, 7, 8, 9, 10, 11, 13, 16, 17, 12, 14, 15, 18, 19, 20, 21, 22, 23]) (by kernel_rfl) mixed (.cons_cons _ (.cons_cons _ (List.nil_sublist _))) ?_
            refine D_val rfl rfl rfl (R_move rfl) ?_
            refine D_val rfl rfl rfl (R_cmp rfl rfl rfl) ?_
            refine D_val rfl rfl rfl (R_move rfl) ?_
            refine D_split ?_ ?_
            ·
              intro h54
              refine D_val rfl rfl rfl (R_move rfl) ?_
              refine D_val rfl rfl rfl (R_loadW ty42 1 rfl rfl rfl rfl) ?_
              refine D_val rfl rfl rfl (R_loadW ty24 0 rfl rfl rfl rfl) ?_
              refine D_call rfl rfl c2013 rfl ⟨⟨0, rfl⟩, ⟨1, rfl⟩, trivial⟩ (rreach_spec a _ _ _ t _ _ (ha.mono hvW) (hr.mono hvW) hok hfew.2.2.1 hsh.2 hst) ?_
              rintro _ V9 hv9 ⟨L2, hI2, hS2, hl2⟩
              obtain rfl := hI.uniq hI2
              obtain ⟨sa, sc, rfl⟩ := hS2.shape
              refine D_call rfl rfl c60 rfl ⟨⟨0, rfl⟩, ⟨1, rfl⟩, trivial⟩ (cmpl_spec L L _ _ V9 ((hS.mono hvV).mono hv9) hS2 (by omega) (by omega)) ?_
              rintro _ V10 hv10 rfl
              rw [cmpL_self]
              refine D_val rfl rfl rfl (R_cmp rfl rfl rfl) ?_
              refine D_val rfl rfl rfl (R_pickT rfl rfl) ?_
              refine D_val rfl rfl rfl (R_move rfl) ?_
              refine D_split ?_ ?_
              ·
                intro h62
                refine D_val rfl rfl rfl (R_loadW ty42 1 rfl rfl rfl rfl) ?_
                refine D_val rfl rfl rfl (R_loadW ty24 0 rfl rfl rfl rfl) ?_
                refine D_val rfl rfl rfl (R_loadW ty42 1 rfl rfl rfl rfl) ?_
                refine D_val rfl rfl rfl (R_loadW ty24 0 rfl rfl rfl rfl) ?_
                refine D_call rfl rfl c17 rfl ⟨⟨0, rfl⟩, ⟨1, rfl⟩, trivial⟩ (to_spec a _ _ _ V10 (ha.mono (hvW.trans (hv9.trans hv10)))) ?_
                rintro _ V11 hv11 ⟨y1, y2, y3, rfl, hy⟩
                refine D_call rfl rfl c11 rfl ⟨⟨0, rfl⟩, ⟨1, rfl⟩, trivial⟩ (tree_spec t.size t V11 _ (Nat.le_refl _) (by omega) (hr.mono (hvW.trans (hv9.trans (hv10.trans hv11))))) ?_
                rintro _ V12 hv12 ⟨ds, rfl, hd⟩
                have hy2 := hy.mono hv12
                obtain ⟨d0, d1, d2, d3, rfl⟩ := hd.shape
                refine D_call rfl rfl c2012 rfl ⟨⟨0, rfl⟩, ⟨1, rfl⟩, trivial⟩ (accepts_spec a _ _ _ t _ V12 hy2 (Nat.le_trans (show a.ranks.length ≤ 8 from hfew.1) (by decide)) hd (by omega)) ?_
                rintro _ V13 hv13 rfl
                rw [accA_is hask0]
                refine D_call rfl rfl c2014 rfl ⟨⟨0, rfl⟩, ⟨1, rfl⟩, trivial⟩ (accepted_spec a _ _ _ t _ V13 (ha.mono (hvW.trans (hv9.trans (hv10.trans (hv11.trans (hv12.trans hv13)))))) (hr.mono (hvW.trans (hv9.trans (hv10.trans (hv11.trans (hv12.trans hv13)))))) hok hfew.2.2.1 hsh.2 hst) ?_
                rintro _ V14 hv14 hAc
                obtain ⟨za, zc, rfl⟩ := hAc.shape
                refine D_val rfl rfl rfl (R_len sl44 rfl) ?_
                refine D_val rfl rfl rfl (R_cmp rfl rfl rfl) ?_
                refine D_val rfl rfl rfl (R_boolEq (by kernel_rfl) rfl rfl) ?_
                refine D_val rfl rfl rfl (R_pickT rfl rfl) ?_
                refine D_val rfl rfl rfl (R_assign rfl) ?_
                refine D_done ?_
                refine Q_then ?_
                refine K_ret ?_
                refine results_gen (rs := [.tmp 4]) (vs := [_]) rfl ⟨rfl, trivial⟩ ?_
                first | rfl | (refine congrArg Value.bool ?_; simp)
              ·
                intro h62
                exact absurd rfl h62
            ·
              intro h54
              exact absurd hask0 h54
end Go.Proofs.X

namespace Go.Proofs.X
open Go Pal Go.Proofs
attribute [local irreducible] Pal.KO Pal.KC Pal.KQ Pal.KD
theorem z1 : zeroOk Tryz.prog T1 (.nilFunc) := .of (by kernel_rfl)
theorem z2 : zeroOk Tryz.prog T2 (.int .i64 0) := .of (by kernel_rfl)
theorem c2017 : callable Tryz.prog F2017 = true := by kernel_rfl
theorem nruns_law (a : Au) (t : Tr) (vr vu vf : Value) (H : View) (cs : List Value) (ha : RepAu H a vr vu vf) (hr : RepT H t cs) (hb : t.size ≤ 1048576) : Sat Tryz.prog F2001 #[.agg #[vr, .int .i64 a.states, vu, vf], .agg cs.toArray] H (fun v _ => v = .bool true) := by
  obtain ⟨ra, rcp, rfl⟩ := ha.r.shape
  obtain ⟨fa, fcp, rfl⟩ := ha.f.shape
  obtain ⟨ua, ucp, rfl⟩ := ha.ushape
  obtain ⟨x0, x1, x2, x3, rfl⟩ := hr.shape
  refine enterO (n := 84) (args := [.agg #[.slice ra a.ranks.length rcp, .int .i64 a.states, .slice ua a.rules.length ucp, .slice fa a.final.length fcp], .agg #[.int .i64 x0, .slice x1 x2 x3]]) Tryz.func4 rfl rfl rfl fun w0 => ?_
  refine K_seq ?_
  refine K_region ?_
  refine KA (A_box rfl) rfl fun b2 => ?_
  refine KA (A_box rfl) rfl fun b3 => ?_
  refine KV (R_assign rfl) rfl ?_
  refine K_nil ?_
  refine Q_then ?_
  refine K_seq ?_
  refine K_seq ?_
  refine K_region ?_
  refine K_call c2009 rfl rfl (known32_spec _) ?_
  rintro _ V1 hv1 rfl
  refine KV (R_not rfl) rfl ?_
  refine K_nil ?_
  refine Q_then ?_
  refine K_ifB rfl (fun h12 => ?_) (fun h12 => ?_)
  ·
    cases h12
  ·
    refine K_skip ?_
    refine Q_then ?_
    refine K_seq ?_
    refine K_seq ?_
    refine K_region ?_
    refine KV (R_loadW ty42 1 rfl rfl rfl rfl) rfl ?_
    refine K_call c15 rfl rfl (few_spec a _ _ _ V1 (ha.mono hv1)) ?_
    rintro _ V2 hv2 rfl
    refine KV (R_notP rfl) rfl ?_
    refine KV (R_move rfl) rfl ?_
    refine K_split ?_ ?_
    ·
      intro h16
      refine K_gno rfl rfl rfl rfl ?_
      refine K_gno rfl rfl rfl rfl ?_
      refine K_gno rfl rfl rfl rfl ?_
      refine KV (R_pickT rfl rfl) rfl ?_
      refine KV (R_move rfl) rfl ?_
      refine K_gno rfl rfl rfl rfl ?_
      refine K_gno rfl rfl rfl rfl ?_
      refine K_gno rfl rfl rfl rfl ?_
      refine KV (R_pickT rfl rfl) rfl ?_
      refine KV (R_move rfl) rfl ?_
      refine K_gno rfl rfl rfl rfl ?_
      refine K_gno rfl rfl rfl rfl ?_
      refine K_gno rfl rfl rfl rfl ?_
      refine K_gno rfl rfl rfl rfl ?_
      refine K_gno rfl rfl rfl rfl ?_
      refine KV (R_pickT rfl rfl) rfl ?_
      refine K_nil ?_
      refine Q_then ?_
      refine K_ifT rfl ?_
      refine K_seq ?_
      refine K_region ?_
      refine KV (R_assign rfl) rfl ?_
      refine K_nil ?_
      refine Q_then ?_
      refine K_ret ?_
      refine Q_then_ret ?_
      refine results_gen (rs := [.tmp 4]) (vs := [_]) rfl ⟨rfl, trivial⟩ ?_
      first | rfl | (refine congrArg Value.bool ?_; simp)
    ·
      intro h16
      have hfew := Decidable.not_not.1 h16
      refine K_gyes rfl rfl ?_
      refine KV (R_loadW ty24 0 rfl rfl rfl rfl) rfl ?_
      refine K_gyes rfl rfl ?_
      refine K_call c2010 rfl rfl (short32_spec t V2 _ (by omega) (hr.mono (hv1.trans hv2))) ?_
      rintro _ V3 hv3 rfl
      refine K_gyes rfl rfl ?_
      refine KV (R_notP rfl) rfl ?_
      refine KV (R_pickF rfl rfl) rfl ?_
      refine KV (R_move rfl) rfl ?_
      refine K_split ?_ ?_
      ·
        intro h21
        refine K_gno rfl rfl rfl rfl ?_
        refine K_gno rfl rfl rfl rfl ?_
        refine K_gno rfl rfl rfl rfl ?_
        refine KV (R_pickT rfl rfl) rfl ?_
        refine KV (R_move rfl) rfl ?_
        refine K_gno rfl rfl rfl rfl ?_
        refine K_gno rfl rfl rfl rfl ?_
        refine K_gno rfl rfl rfl rfl ?_
        refine K_gno rfl rfl rfl rfl ?_
        refine K_gno rfl rfl rfl rfl ?_
        refine KV (R_pickT rfl rfl) rfl ?_
        refine K_nil ?_
        refine Q_then ?_
        refine K_ifT rfl ?_
        refine K_seq ?_
        refine K_region ?_
        refine KV (R_assign rfl) rfl ?_
        refine K_nil ?_
        refine Q_then ?_
        refine K_ret ?_
        refine Q_then_ret ?_
        refine results_gen (rs := [.tmp 4]) (vs := [_]) rfl ⟨rfl, trivial⟩ ?_
        first | rfl | (refine congrArg Value.bool ?_; simp)
      ·
        intro h21
        refine K_gyes rfl rfl ?_
        refine KV (R_loadW ty42 1 rfl rfl rfl rfl) rfl ?_
        refine K_gyes rfl rfl ?_
        refine K_call c20 rfl rfl (rcheck_spec a _ _ _ V3 (ha.mono (hv1.trans (hv2.trans hv3)))) ?_
        rintro _ V4 hv4 rfl
        refine K_gyes rfl rfl ?_
        refine KV (R_cmp rfl rfl rfl) rfl ?_
        refine KV (R_pickF rfl rfl) rfl ?_
        refine KV (R_move rfl) rfl ?_
        refine K_split ?_ ?_
        ·
          intro h26
          refine K_gno rfl rfl rfl rfl ?_
          refine K_gno rfl rfl rfl rfl ?_
          refine K_gno rfl rfl rfl rfl ?_
          refine K_gno rfl rfl rfl rfl ?_
          refine K_gno rfl rfl rfl rfl ?_
          refine KV (R_pickT rfl rfl) rfl ?_
          refine K_nil ?_
          refine Q_then ?_
          refine K_ifT rfl ?_
          refine K_seq ?_
          refine K_region ?_
          refine KV (R_assign rfl) rfl ?_
          refine K_nil ?_
          refine Q_then ?_
          refine K_ret ?_
          refine Q_then_ret ?_
          refine results_gen (rs := [.tmp 4]) (vs := [_]) rfl ⟨rfl, trivial⟩ ?_
          first | rfl | (refine congrArg Value.bool ?_; simp)
        ·
          intro h26
          refine K_gyes rfl rfl ?_
          refine KV (R_fieldAddr 0 fd42_0 rfl) rfl ?_
          refine K_gyes rfl rfl ?_
          refine KV (R_loadO ty25 1 rfl rfl rfl rfl (fun _ => rfl) rfl) rfl ?_
          refine K_gyes rfl rfl ?_
          refine KV (R_loadW ty24 0 rfl rfl rfl rfl) rfl ?_
          refine K_gyes rfl rfl ?_
          refine K_call c39 rfl rfl (rvalid_spec a.ranks _ t V4 _ (Nat.le_trans (show a.ranks.length ≤ 8 from hfew.1) (by decide)) (by omega) (hr.mono (hv1.trans (hv2.trans (hv3.trans hv4)))) (ha.mono (hv1.trans (hv2.trans (hv3.trans hv4)))).r) ?_
          rintro _ V5 hv5 rfl
          refine K_gyes rfl rfl ?_
          refine KV (R_cmp rfl rfl rfl) rfl ?_
          refine KV (R_pickF rfl rfl) rfl ?_
          refine K_nil ?_
          refine Q_then ?_
          refine K_if rfl (fun h32 => ?_) (fun h32 => ?_)
          ·
            refine K_seq ?_
            refine K_region ?_
            refine KV (R_assign rfl) rfl ?_
            refine K_nil ?_
            refine Q_then ?_
            refine K_ret ?_
            refine Q_then_ret ?_
            refine results_gen (rs := [.tmp 4]) (vs := [_]) rfl ⟨rfl, trivial⟩ ?_
            first | rfl | (refine congrArg Value.bool ?_; simp)
          ·
            have hask0 : askErr a t = 0 := by unfold askErr; rw [if_neg h26]; exact Decidable.not_not.1 h32
            have hsh := Decidable.not_not.1 h21
            obtain ⟨hok, _, _⟩ := askErr_zero hask0
            have hst : a.states ≤ 1048576 := by have := hfew.2.1; omega
            have hvW : VLe H V5 := hv1.trans (hv2.trans (hv3.trans (hv4.trans hv5)))
            refine K_skip ?_
            refine Q_then ?_
            refine K_seq ?_
            refine K_region ?_
            refine KV (R_loadW ty42 1 rfl rfl rfl rfl) rfl ?_
            refine KV (R_loadW ty24 0 rfl rfl rfl rfl) rfl ?_
            refine K_call c2014 rfl rfl (accepted_spec a _ _ _ t _ V5 (ha.mono hvW) (hr.mono hvW) hok hfew.2.2.1 hsh.2 hst) ?_
            rintro _ V6 hv6 hAc
            obtain ⟨za, zc, rfl⟩ := hAc.shape
            have hvX := hvW.trans hv6
            refine KV (R_assign rfl) rfl ?_
            refine K_nil ?_
            refine Q_then ?_
            refine K_seq ?_
            refine K_seq ?_
            refine K_region ?_
            refine KV (R_move rfl) rfl ?_
            refine KV (R_len sl44 rfl) rfl ?_
            refine KV (R_cmp rfl rfl rfl) rfl ?_
            refine K_nil ?_
            refine Q_then ?_
            refine K_if rfl (fun h38 => ?_) (fun h38 => ?_)
            ·
              refine K_seq ?_
              refine K_region ?_
              refine KV (R_assign rfl) rfl ?_
              refine K_nil ?_
              refine Q_then ?_
              refine K_ret ?_
              refine Q_then_ret ?_
              refine results_gen (rs := [.tmp 4]) (vs := [_]) rfl ⟨rfl, trivial⟩ ?_
              first | rfl | (refine congrArg Value.bool ?_; simp)
            ·
              refine K_skip ?_
              refine Q_then ?_
              refine K_seq ?_
              refine K_regionD (fin := false) (R := [0, 2, 1, 3, 4, 5, 6, 7, 8, 9, 10, 11]) (by kernel_rfl) mixed (.cons_cons _ (.cons_cons _ (List.nil_sublist _))) ?_
              refine D_val rfl rfl rfl (R_loadW ty42 1 rfl rfl rfl rfl) ?_
              refine D_val rfl rfl rfl (R_loadW ty24 0 rfl rfl rfl rfl) ?_
              refine D_call rfl rfl c17 rfl ⟨⟨0, rfl⟩, ⟨1, rfl⟩, trivial⟩ (to_spec a _ _ _ _ (ha.mono hvX)) ?_
              rintro _ V7 hv7 ⟨y1, y2, y3, rfl, hy⟩
              refine D_call rfl rfl c11 rfl ⟨⟨0, rfl⟩, ⟨1, rfl⟩, trivial⟩ (tree_spec t.size t V7 _ (Nat.le_refl _) (by omega) (hr.mono ((hvX).trans hv7))) ?_
              rintro _ V8 hv8 ⟨ds, rfl, hd⟩
              have hy2 := hy.mono hv8
              obtain ⟨d0, d1, d2, d3, rfl⟩ := hd.shape
              refine D_call rfl rfl c2015 rfl ⟨⟨0, rfl⟩, ⟨1, rfl⟩, trivial⟩ (leastrun_spec a _ _ _ t _ V8 hy2 (Nat.le_trans (show a.ranks.length ≤ 8 from hfew.1) (by decide)) hd (by omega)) ?_
              rintro _ V9 hv9 ⟨w, is, rfl, _, hLO⟩
              obtain ⟨hBW, rfl⟩ := hLO hask0
              obtain ⟨hwS, hwl⟩ := BestW.si hBW
              rw [bestF_eq] at hwS hwl
              rw [best_some]
              obtain ⟨wa, wc, rfl⟩ := hwS.shape
              have hvY := hvX.trans (hv7.trans (hv8.trans hv9))
              refine D_val rfl rfl rfl (R_move rfl) ?_
              refine D_val rfl rfl rfl (R_extract rfl rfl) ?_
              refine D_val rfl rfl rfl (R_extract rfl rfl) ?_
              refine D_val rfl rfl rfl (R_extract rfl rfl) ?_
              refine D_val rfl rfl rfl (R_assign rfl) ?_
              refine D_val rfl rfl rfl (R_assign rfl) ?_
              refine D_val rfl rfl rfl (R_assign rfl) ?_
              refine D_done ?_
              refine Q_then ?_
              refine K_seq ?_
              refine K_regionD (fin := false) (R := [0, 2, 1, 3, 4, 5, 6, 7, 8, 9, 10]) (by kernel_rfl) mixed (.cons_cons _ (.cons_cons _ (List.nil_sublist _))) ?_
              refine D_val rfl rfl rfl (R_loadW ty42 1 rfl rfl rfl rfl) ?_
              refine D_val rfl rfl rfl (R_loadW ty24 0 rfl rfl rfl rfl) ?_
              refine D_call rfl rfl c17 rfl ⟨⟨0, rfl⟩, ⟨1, rfl⟩, trivial⟩ (to_spec a _ _ _ V9 (ha.mono hvY)) ?_
              rintro _ V10 hv10 ⟨z1, z2, z3, rfl, hz⟩
              refine D_call rfl rfl c11 rfl ⟨⟨0, rfl⟩, ⟨1, rfl⟩, trivial⟩ (tree_spec t.size t V10 _ (Nat.le_refl _) (by omega) (hr.mono (hvY.trans hv10))) ?_
              rintro _ V11 hv11 ⟨es, rfl, he⟩
              have hz2 := hz.mono hv11
              obtain ⟨e0, e1, e2, e3, rfl⟩ := he.shape
              refine D_call rfl rfl c2016 rfl ⟨⟨0, rfl⟩, ⟨1, rfl⟩, trivial⟩ (countruns_spec a _ _ _ t _ V11 hz2 (Nat.le_trans (show a.ranks.length ≤ 8 from hfew.1) (by decide)) he (by omega)) ?_
              rintro _ V12 hv12 ⟨n, rfl, _, hCO⟩
              have hC := hCO hask0
              rw [show cntA a t (sortI a.final) = (accR (sortO a.rules) t a.final).length from cnt_acc _ _ _] at hC
              obtain ⟨na, nk, nc, rfl, hN⟩ := hC
              have hAc2 := hAc.mono (hv7.trans (hv8.trans (hv9.trans (hv10.trans (hv11.trans hv12)))))
              refine D_val rfl rfl rfl (R_move rfl) ?_
              refine D_val rfl rfl rfl (R_extract rfl rfl) ?_
              refine D_val rfl rfl rfl (R_extract rfl rfl) ?_
              refine D_alloc rfl rfl rfl (A_alloc z2009) fun b9 => ?_
              refine D_storeW ty2009 0 rfl rfl rfl rfl rfl ⟨⟨0, rfl⟩, ⟨1, rfl⟩, trivial⟩ rfl rfl rfl rfl ?_
              refine D_val rfl rfl rfl (R_assign rfl) ?_
              refine D_done ?_
              refine Q_then ?_
              refine K_seq ?_
              refine K_regionD (fin := false) (R := [0, 1, 2, 3, 4, 5, 6, 7, 8, 9, 10, 11, 12, 13, 14, 15, 16, 17, 18, 19, 20, 21, 22, 23, 24, 25, 26, 27, 28]) (by kernel_rfl) mixed (.cons_cons _ (.cons_cons _ (.cons_cons _ (List.nil_sublist _)))) ?_
              refine D_val rfl rfl rfl (R_move rfl) ?_
              refine D_val rfl rfl rfl (R_cmp rfl rfl rfl) ?_
              refine D_val rfl rfl rfl (R_move rfl) ?_
              refine D_split ?_ ?_
              ·
                intro h58
                refine D_val rfl rfl rfl (R_move rfl) ?_
                refine D_val rfl rfl rfl (R_cmp rfl rfl rfl) ?_
                refine D_val rfl rfl rfl (R_pickT rfl rfl) ?_
                refine D_val rfl rfl rfl (R_move rfl) ?_
                refine D_split ?_ ?_
                ·
                  intro h62
                  refine D_val rfl rfl rfl (R_move rfl) ?_
                  refine D_val rfl rfl rfl (R_move rfl) ?_
                  refine D_val rfl rfl rfl (R_len sl44 rfl) ?_
                  refine D_val rfl rfl rfl (R_cmp rfl rfl rfl) ?_
                  refine D_val rfl rfl rfl (R_boolEq (by kernel_rfl) rfl rfl) ?_
                  refine D_val rfl rfl rfl (R_pickT rfl rfl) ?_
                  refine D_val rfl rfl rfl (R_move rfl) ?_
                  refine D_split ?_ ?_
                  ·
                    intro h69
                    refine D_val rfl rfl rfl (R_move rfl) ?_
                    refine D_val rfl rfl rfl (R_move rfl) ?_
                    refine D_call rfl rfl c2017 rfl ⟨⟨0, rfl⟩, ⟨1, rfl⟩, ⟨2, rfl⟩, trivial⟩ (rleast_spec (accR (sortO a.rules) t a.final) _ V12 hAc2 (by omega) (fun x hx => Nat.le_trans (accR_item hx) (by omega))) ?_
                    rintro _ V13 hv13 hLS
                    obtain ⟨ma, mc, rfl⟩ := hLS.shape
                    refine D_call rfl rfl c60 rfl ⟨⟨0, rfl⟩, ⟨1, rfl⟩, ⟨2, rfl⟩, trivial⟩ (cmpl_spec (((accR (sortO a.rules) t a.final).foldl bestO none).getD []) (((accR (sortO a.rules) t a.final).foldl bestO none).getD []) _ _ V13 (hwS.mono (hv10.trans (hv11.trans (hv12.trans hv13)))) hLS (by omega) (by omega)) ?_
                    rintro _ V14 hv14 rfl
                    rw [cmpL_self]
                    refine D_val rfl rfl rfl (R_cmp rfl rfl rfl) ?_
                    refine D_val rfl rfl rfl (R_pickT rfl rfl) ?_
                    refine D_val rfl rfl rfl (R_move rfl) ?_
                    refine D_split ?_ ?_
                    ·
                      intro h76
                      refine D_val rfl rfl rfl (R_loadW ty2009 0 rfl rfl rfl rfl) ?_
                      refine D_val rfl rfl rfl (R_move rfl) ?_
                      refine D_val rfl rfl rfl (R_len sl44 rfl) ?_
                      refine D_val rfl rfl rfl (R_convII (k := .u64) (by kernel_rfl) ⟨_, Tryz.underlying3⟩ rfl (r := ((accR (sortO a.rules) t a.final).length : Int)) (by rw [IntKind.wrap_u64]; omega)) ?_
                      refine D_call rfl rfl c2019 rfl ⟨⟨0, rfl⟩, ⟨1, rfl⟩, ⟨2, rfl⟩, trivial⟩ (fromU_spec (accR (sortO a.rules) t a.final).length (by omega) V14) ?_
                      rintro _ V15 hv15 ⟨fa2, fk2, fc2, rfl, hF2⟩
                      refine D_call rfl rfl c2018 rfl ⟨⟨0, rfl⟩, ⟨1, rfl⟩, ⟨2, rfl⟩, trivial⟩ (eqN_spec _ _ _ _ V15 (hN.mono (hv13.trans (hv14.trans hv15))) hF2 (by omega)) ?_
                      rintro _ V16 hv16 rfl
                      refine D_val rfl rfl rfl (R_pickT rfl rfl) ?_
                      refine D_val rfl rfl rfl (R_assign rfl) ?_
                      refine D_done ?_
                      refine Q_then ?_
                      refine K_ret ?_
                      refine results_gen (rs := [.tmp 4]) (vs := [_]) rfl ⟨rfl, trivial⟩ ?_
                      first | rfl | (refine congrArg Value.bool ?_; simp)
                    ·
                      intro h76
                      exact absurd rfl h76
                  ·
                    intro h69
                    exact h69 (by simp) |>.elim
                ·
                  intro h62
                  exact absurd hask0 h62
              ·
                intro h58
                exact absurd hask0 h58
end Go.Proofs.X

namespace Go.Proofs.X
open Go Pal Go.Proofs
attribute [local irreducible] Pal.KO Pal.KC Pal.KQ Pal.KD
theorem c51 : callable Tryz.prog F51 = true := by kernel_rfl
theorem c54 : callable Tryz.prog F54 = true := by kernel_rfl
theorem c2048 : callable Tryz.prog F2048 = true := by kernel_rfl
theorem c2049 : callable Tryz.prog F2049 = true := by kernel_rfl
theorem sortedS_spec (a : Au) (vr vu vf : Value) (H : View) (ha : RepAu H a vr vu vf) : Sat Tryz.prog F2045 #[.agg #[vr, .int .i64 a.states, vu, vf]] H (fun r H' => ∃ v1 v2 v3, r = .agg #[v1, .int .i64 a.states, v2, v3] ∧ RepAu H' (normA a) v1 v2 v3) :=
  (sortedP_spec a vr vu vf H ha).mono' fun _ _ _ h => h.2.1

theorem eqRules_spec (a b : Au) (v1 v2 v3 w1 w2 w3 : Value) (H : View) (ha : RepAu H a v1 v2 v3) (hb : RepAu H b w1 w2 w3) : Sat Tryz.prog F2048 #[v2, w2, .func (.func F2049) #[] #[]] H (fun r _ => r = .bool (decide (a.rules = b.rules))) := by
  obtain ⟨ua, uc, rfl⟩ := ha.ushape
  obtain ⟨wa, wc, rfl⟩ := hb.ushape
  have hul := ha.ul
  refine enterO (n := 32) (args := [.slice ua a.rules.length uc, .slice wa b.rules.length wc, .func (.func F2049) #[] #[]]) Tryz.func73 rfl rfl rfl fun w0 => ?_
  refine K_seq ?_
  refine K_region ?_
  refine KV (R_assign rfl) rfl ?_
  refine K_nil ?_
  refine Q_then ?_
  refine K_seq ?_
  refine K_seq ?_
  refine K_region ?_
  refine KV (R_move rfl) rfl ?_
  refine KV (R_len sl48 rfl) rfl ?_
  refine KV (R_move rfl) rfl ?_
  refine KV (R_len sl48 rfl) rfl ?_
  refine KV (R_cmp rfl rfl rfl) rfl ?_
  refine K_nil ?_
  refine Q_then ?_
  refine K_if rfl (fun h14 => ?_) (fun h14 => ?_)
  ·
    refine K_seq ?_
    refine K_region ?_
    refine KV (R_assign rfl) rfl ?_
    refine K_nil ?_
    refine Q_then ?_
    refine K_ret ?_
    refine Q_then_ret ?_
    refine results_gen (rs := [.tmp 6]) (vs := [_]) rfl ⟨rfl, trivial⟩ ?_
    refine congrArg Value.bool (Eq.symm ?_)
    simp only [decide_eq_false_iff_not]
    intro e; exact h14 (by rw [e])
  ·
    have hlen : a.rules.length = b.rules.length := by omega
    refine K_skip ?_
    refine Q_then ?_
    refine K_seq ?_
    refine K_seq ?_
    refine K_region ?_
    refine KV (R_move rfl) rfl ?_
    refine KV (R_len sl48 rfl) rfl ?_
    refine KV (R_move rfl) rfl ?_
    refine K_nil ?_
    refine Q_then ?_
    refine K_block ?_
    refine K_loopD (G := Nat × View) [6, 7, 8, 9, 17, 18, 19, 20, 21, 22, 23, 24, 25, 26, 27, 28, 29, 30, 31] (fun g => [(17, .int .i64 (g.1 : Int))]) (fun hl g => hl) (fun g => g.2) (fun g => (g.1 ≤ a.rules.length) ∧ (VLe H g.2) ∧ (∀ j (h : j < a.rules.length) (h2 : j < b.rules.length), j < g.1 → a.rules[j] = b.rules[j])) (fun g => a.rules.length - g.1) (0, H) ⟨Nat.zero_le _, VLe.refl _, fun j _ _ h => by simp at h⟩ ⟨rfl, trivial⟩ (by simp only [args0, Nat.reduceAdd, del, memN, beqN, Nat.reduceBEq, cond_true, cond_false]; rfl) rfl rfl ?_
    rintro ⟨k, V⟩ ⟨hk, hV, hyes⟩
    dsimp only at hk hV hyes
    dsimp only [List.set, List.cons_append, List.nil_append]
    refine K_seq ?_
    refine K_region ?_
    refine KV (R_cmp rfl rfl rfl) rfl ?_
    refine K_nil ?_
    refine Q_then ?_
    refine K_seq ?_
    refine K_if rfl (fun h18 => ?_) (fun h18 => ?_)
    ·
      have hk' : k < a.rules.length := by omega
      have hk2 : k < b.rules.length := by omega
      obtain ⟨xb, xo, xq, xx, xy, xe, xc, xs, xt, xw, xl⟩ := (ha.mono hV).rule hk'
      cases xe
      obtain ⟨yb, yo, yq, yx, yy, ye, yc, ys, yt, yw, yl⟩ := (hb.mono hV).rule hk2
      cases ye
      refine K_skip ?_
      refine Q_then ?_
      refine K_seq ?_
      refine K_block ?_
      refine K_seq ?_
      refine K_region ?_
      refine KV (R_move rfl) rfl ?_
      refine KV (R_indexN sl48 ty85 rfl rfl (by omega)) rfl ?_
      refine KV (R_loadH ty85 rfl (xc) rfl (fun e => by cases e) rfl) rfl ?_
      refine KA (A_alloc z85) rfl fun b8 => ?_
      refine KV (R_assign rfl) rfl ?_
      refine K_storeW ty85 0 rfl rfl rfl rfl rfl rfl rfl ?_
      refine K_nil ?_
      refine Q_then ?_
      refine K_seq ?_
      refine K_region ?_
      refine KV (R_move rfl) rfl ?_
      refine KV (R_move rfl) rfl ?_
      refine KV (R_indexN sl48 ty85 rfl rfl (by omega)) rfl ?_
      refine KV (R_loadH ty85 rfl (yc) rfl (fun e => by cases e) rfl) rfl ?_
      refine KA (A_alloc z85) rfl fun b9 => ?_
      refine K_storeW ty85 0 rfl rfl rfl rfl rfl rfl rfl ?_
      refine K_nil ?_
      refine Q_then ?_
      refine K_seq ?_
      refine K_region ?_
      refine KV (R_move rfl) rfl ?_
      refine KV (R_loadW ty85 1 rfl rfl rfl rfl) rfl ?_
      refine KV (R_loadW ty85 0 rfl rfl rfl rfl) rfl ?_
      refine K_callO (first := []) [] _ (List.Perm.refl _) c2049 rfl rfl rfl (eqO2_spec V (a.rules[k], .slice xx a.rules[k].args.length xy) (b.rules[k], .slice yx b.rules[k].args.length yy) ⟨xs, xl, xt, xw⟩ ⟨ys, yl, yt, yw⟩) ?_
      rintro _ V1 q hle rfl
      refine KO_own [] (List.nil_sublist _) ?_
      rw [eqP_is]
      have hkk := hk'
      refine KV (R_notP rfl) rfl ?_
      refine K_nil ?_
      refine Q_then ?_
      refine K_if rfl (fun h30 => ?_) (fun h30 => ?_)
      ·
        refine K_seq ?_
        refine K_region ?_
        refine KV (R_assign rfl) rfl ?_
        refine K_nil ?_
        refine Q_then ?_
        refine K_ret ?_
        refine Q_block_ret ?_
        refine Q_then_ret ?_
        refine Q_then_ret ?_
        refine Q_block_ret ?_
        refine Q_then_ret ?_
        refine results_gen (rs := [.tmp 6]) (vs := [_]) rfl ⟨rfl, trivial⟩ ?_
        refine congrArg Value.bool (Eq.symm ?_)
        simp only [decide_eq_false_iff_not]
        intro e; exact h30 (List.getElem_of_eq e hk')
      ·
        have hyes2 : ∀ j (h : j < a.rules.length) (h2 : j < b.rules.length), j < k + 1 → a.rules[j] = b.rules[j] := by
          intro j h h2 hj
          by_cases e : j = k
          · subst e; exact Decidable.not_not.1 h30
          · exact hyes j h h2 (by omega)
        refine K_skip ?_
        refine Q_block ?_
        refine Q_then ?_
        refine K_region ?_
        refine KV (R_add rfl rfl (by omega)) rfl ?_
        refine KV (R_move rfl) rfl ?_
        refine K_nil ?_
        refine Q_nextD (k + 1, V1) ⟨hk', hV.trans hle, hyes2⟩ (by (try dsimp only); omega) ⟨rfl, trivial⟩ rfl rfl rfl
    ·
      have hk' : k = a.rules.length := by omega
      refine K_exit ?_
      refine Q_then_exit ?_
      refine Q_then_exit ?_
      refine Q_block_exit ?_
      refine Q_then ?_
      refine K_seq ?_
      refine K_region ?_
      refine KV (R_assign rfl) rfl ?_
      refine K_nil ?_
      refine Q_then ?_
      refine K_ret ?_
      refine results_gen (rs := [.tmp 6]) (vs := [_]) rfl ⟨rfl, trivial⟩ ?_
      refine congrArg Value.bool (Eq.symm ?_)
      simp only [decide_eq_true_eq]
      exact List.ext_getElem (by omega) fun j h h2 => hyes j h h2 (by omega)

theorem normalize_spec (a : Au) (vr vu vf : Value) (H : View) (ha : RepAu H a vr vu vf) : Sat Tryz.prog F2020 #[.agg #[vr, .int .i64 a.states, vu, vf]] H (fun r H' => ∃ v1 v2 v3, r = .tuple #[.agg #[v1, .int .i64 (errAu (auErr a) (normA a)).states, v2, v3], .int .i64 (auErr a)] ∧ RepAu H' (errAu (auErr a) (normA a)) v1 v2 v3) := by
  obtain ⟨ar, arc, rfl⟩ := ha.r.shape
  obtain ⟨af, afc, rfl⟩ := ha.f.shape
  obtain ⟨au, auc, rfl⟩ := ha.ushape
  refine enterO (n := 13) (args := [.agg #[.slice ar a.ranks.length arc, .int .i64 a.states, .slice au a.rules.length auc, .slice af a.final.length afc]]) Tryz.func29 rfl rfl rfl fun w0 => ?_
  refine K_seq ?_
  refine K_region ?_
  refine KA (A_box rfl) rfl fun b1 => ?_
  refine KA (A_alloc z50) rfl fun b2 => ?_
  refine KV (R_assign rfl) rfl ?_
  refine K_nil ?_
  refine Q_then ?_
  refine K_seq ?_
  refine K_seq ?_
  refine K_region ?_
  refine KV (R_loadW ty50 1 rfl rfl rfl rfl) rfl ?_
  refine K_call c77 rfl rfl (ncheck_spec a _ _ _ H ha) ?_
  rintro _ V1 hv1 rfl
  refine KV (R_assign rfl) rfl ?_
  refine K_nil ?_
  refine Q_then ?_
  refine K_seq ?_
  refine K_region ?_
  refine KV (R_move rfl) rfl ?_
  refine KV (R_cmp rfl rfl rfl) rfl ?_
  refine K_nil ?_
  refine Q_then ?_
  refine K_if rfl (fun h8 => ?_) (fun h8 => ?_)
  ·
    refine K_seq ?_
    refine K_region ?_
    refine KV (R_build z50 pl50 rfl rfl) rfl ?_
    refine KV (R_move rfl) rfl ?_
    refine K_storeW ty50 0 rfl rfl rfl rfl rfl rfl rfl ?_
    refine KV (R_assign rfl) rfl ?_
    refine K_nil ?_
    refine Q_then ?_
    refine K_ret ?_
    refine Q_then_ret ?_
    refine results_gen (rs := [.cell 2 37, .tmp 3]) (vs := [_, _]) rfl ⟨⟨_, _, _, _, _, _, 0, rfl, rfl, ty50, (fun e => by cases e), rfl, rfl⟩, ⟨rfl, trivial⟩⟩ ?_
    rw [errAu_no h8]
    exact ⟨nilS, nilS, nilS, rfl, RepAu.nil _⟩
  ·
    refine K_skip ?_
    refine Q_then ?_
    refine K_seq ?_
    refine K_region ?_
    refine KV (R_loadW ty50 1 rfl rfl rfl rfl) rfl ?_
    refine K_call c2045 rfl rfl (sortedS_spec a _ _ _ V1 (ha.mono hv1)) ?_
    rintro _ V2 hv2 ⟨v1, v2, v3, rfl, hN⟩
    obtain ⟨na, nc, rfl⟩ := hN.r.shape
    obtain ⟨nf, nfc, rfl⟩ := hN.f.shape
    obtain ⟨nu, nuc, rfl⟩ := hN.ushape
    refine K_storeW ty50 0 rfl rfl rfl rfl rfl rfl rfl ?_
    refine KV (R_assign rfl) rfl ?_
    refine K_nil ?_
    refine Q_then ?_
    refine K_ret ?_
    refine results_gen (rs := [.cell 2 37, .tmp 3]) (vs := [_, _]) rfl ⟨⟨_, _, _, _, _, _, 0, rfl, rfl, ty50, (fun e => by cases e), rfl, rfl⟩, ⟨rfl, trivial⟩⟩ ?_
    have h80 := Decidable.not_not.1 h8
    rw [errAu_ok h80, h80]
    exact ⟨_, _, _, rfl, hN⟩

theorem nequal_spec (a b : Au) (v1 v2 v3 w1 w2 w3 : Value) (H : View) (ha : RepAu H a v1 v2 v3) (hb : RepAu H b w1 w2 w3) : Sat Tryz.prog F2022 #[.agg #[v1, .int .i64 a.states, v2, v3], .agg #[w1, .int .i64 b.states, w2, w3]] H (fun r _ => r = .bool (sameM a b)) := by
  obtain ⟨ar, arc, rfl⟩ := ha.r.shape
  obtain ⟨af, afc, rfl⟩ := ha.f.shape
  obtain ⟨au, auc, rfl⟩ := ha.ushape
  obtain ⟨br, brc, rfl⟩ := hb.r.shape
  obtain ⟨bf, bfc, rfl⟩ := hb.f.shape
  obtain ⟨bu, buc, rfl⟩ := hb.ushape
  refine enterO (n := 37) (args := [.agg #[.slice ar a.ranks.length arc, .int .i64 a.states, .slice au a.rules.length auc, .slice af a.final.length afc], .agg #[.slice br b.ranks.length brc, .int .i64 b.states, .slice bu b.rules.length buc, .slice bf b.final.length bfc]]) Tryz.func32 rfl rfl rfl fun w0 => ?_
  refine K_seq ?_
  refine K_region ?_
  refine KA (A_box rfl) rfl fun b2 => ?_
  refine KA (A_box rfl) rfl fun b3 => ?_
  refine KV (R_assign rfl) rfl ?_
  refine K_nil ?_
  refine Q_then ?_
  refine K_seq ?_
  refine K_regionD (fin := true) (R := [0, 2, 1, 3, 4, 5, 6, 7]) (by kernel_rfl) mixed (.cons_cons _ (.cons_cons _ (List.nil_sublist _))) ?_
  refine D_val rfl rfl rfl (R_loadW ty50 1 rfl rfl rfl rfl) ?_
  refine D_val rfl rfl rfl (R_loadW ty50 0 rfl rfl rfl rfl) ?_
  refine D_call rfl rfl c2045 rfl ⟨⟨0, rfl⟩, ⟨1, rfl⟩, trivial⟩ (sortedS_spec a _ _ _ H ha) ?_
  rintro _ V1 hv1 ⟨x1, x2, x3, rfl, hx⟩
  obtain ⟨xr, xrc, rfl⟩ := hx.r.shape
  obtain ⟨xf, xfc, rfl⟩ := hx.f.shape
  obtain ⟨xu, xuc, rfl⟩ := hx.ushape
  refine D_call rfl rfl c2045 rfl ⟨⟨0, rfl⟩, ⟨1, rfl⟩, trivial⟩ (sortedS_spec b _ _ _ V1 (hb.mono hv1)) ?_
  rintro _ V2 hv2 ⟨y1, y2, y3, rfl, hy⟩
  obtain ⟨yr, yrc, rfl⟩ := hy.r.shape
  obtain ⟨yf, yfc, rfl⟩ := hy.f.shape
  obtain ⟨yu, yuc, rfl⟩ := hy.ushape
  have hx2 := hx.mono hv2
  refine D_alloc rfl rfl rfl (A_alloc z50) fun b5 => ?_
  refine D_alloc rfl rfl rfl (A_alloc z50) fun b6 => ?_
  refine D_storeW ty50 1 rfl rfl rfl rfl rfl ⟨⟨1, rfl⟩, ⟨2, rfl⟩, trivial⟩ rfl rfl rfl rfl ?_
  refine D_lastStoreW ty50 1 rfl rfl rfl rfl rfl rfl rfl rfl rfl ?_
  refine Q_then ?_
  refine K_seq ?_
  refine K_region ?_
  refine KV (R_fieldAddr 0 fd50_0 rfl) rfl ?_
  refine KV (R_loadO ty47 0 rfl rfl rfl rfl (fun _ => rfl) rfl) rfl ?_
  refine KV (R_fieldAddr 0 fd50_0 rfl) rfl ?_
  refine KV (R_loadO ty47 1 rfl rfl rfl rfl (fun _ => rfl) rfl) rfl ?_
  refine K_call c51 rfl rfl (eqa_spec a.ranks b.ranks _ _ V2 hx2.r hy.r ha.rl hb.rl) ?_
  rintro _ V3 hv3 rfl
  refine KV (R_move rfl) rfl ?_
  refine K_split ?_ ?_
  ·
    intro h16
    refine K_gyes rfl rfl ?_
    refine KV (R_fieldAddr 1 fd50_1 rfl) rfl ?_
    refine K_gyes rfl rfl ?_
    refine KV (R_loadO ty3 0 rfl rfl rfl rfl (fun _ => rfl) rfl) rfl ?_
    refine K_gyes rfl rfl ?_
    refine KV (R_fieldAddr 1 fd50_1 rfl) rfl ?_
    refine K_gyes rfl rfl ?_
    refine KV (R_loadO ty3 1 rfl rfl rfl rfl (fun _ => rfl) rfl) rfl ?_
    refine K_gyes rfl rfl ?_
    refine KV (R_cmp rfl rfl rfl) rfl ?_
    refine KV (R_pickT rfl rfl) rfl ?_
    refine KV (R_move rfl) rfl ?_
    refine K_split ?_ ?_
    ·
      intro h23
      refine K_gyes rfl rfl ?_
      refine KV (R_fieldAddr 3 fd50_3 rfl) rfl ?_
      refine K_gyes rfl rfl ?_
      refine KV (R_loadO ty25 0 rfl rfl rfl rfl (fun _ => rfl) rfl) rfl ?_
      refine K_gyes rfl rfl ?_
      refine KV (R_fieldAddr 3 fd50_3 rfl) rfl ?_
      refine K_gyes rfl rfl ?_
      refine KV (R_loadO ty25 1 rfl rfl rfl rfl (fun _ => rfl) rfl) rfl ?_
      refine K_gyes rfl rfl ?_
      refine K_call c54 rfl rfl (eqi_spec (sortI a.final) (sortI b.final) _ _ V3 (hx2.mono hv3).f (hy.mono hv3).f hx2.fl hy.fl) ?_
      rintro _ V4 hv4 rfl
      refine KV (R_pickT rfl rfl) rfl ?_
      refine KV (R_move rfl) rfl ?_
      refine K_split ?_ ?_
      ·
        intro h30
        refine K_gyes rfl rfl ?_
        refine KV (R_fieldAddr 2 fd50_2 rfl) rfl ?_
        refine K_gyes rfl rfl ?_
        refine KV (R_loadO ty48 0 rfl rfl rfl rfl (fun _ => rfl) rfl) rfl ?_
        refine K_gyes rfl rfl ?_
        refine KV (R_fieldAddr 2 fd50_2 rfl) rfl ?_
        refine K_gyes rfl rfl ?_
        refine KV (R_loadO ty48 1 rfl rfl rfl rfl (fun _ => rfl) rfl) rfl ?_
        refine K_gyes rfl rfl ?_
        refine K_callO (first := []) [] _ (List.Perm.refl _) c2048 rfl rfl rfl (eqRules_spec (normA a) (normA b) _ _ _ _ _ _ V4 (hx2.mono (hv3.trans hv4)) (hy.mono (hv3.trans hv4))) ?_
        rintro _ V5 q hv5 rfl
        refine KO_own [] (List.nil_sublist _) ?_
        have hdone := hv5
        refine KV (R_pickT rfl rfl) rfl ?_
        refine KV (R_assign rfl) rfl ?_
        refine K_nil ?_
        refine Q_then ?_
        refine K_ret ?_
        refine results_gen (rs := [.tmp 4]) (vs := [_]) rfl ⟨rfl, trivial⟩ ?_
        refine congrArg Value.bool (Eq.trans ?_ (sameM_dec a b).symm)
        simp_all [normA]
      ·
        intro h30
        refine K_gno rfl rfl rfl rfl ?_
        refine K_gno rfl rfl rfl rfl ?_
        refine K_gno rfl rfl rfl rfl ?_
        refine K_gno rfl rfl rfl rfl ?_
        refine K_gno rfl rfl rfl rfl ?_
        refine KV (R_pickF rfl rfl) rfl ?_
        refine KV (R_assign rfl) rfl ?_
        refine K_nil ?_
        refine Q_then ?_
        refine K_ret ?_
        refine results_gen (rs := [.tmp 4]) (vs := [_]) rfl ⟨rfl, trivial⟩ ?_
        refine congrArg Value.bool (Eq.trans ?_ (sameM_dec a b).symm)
        simp_all [normA]
    ·
      intro h23
      refine K_gno rfl rfl rfl rfl ?_
      refine K_gno rfl rfl rfl rfl ?_
      refine K_gno rfl rfl rfl rfl ?_
      refine K_gno rfl rfl rfl rfl ?_
      refine K_gno rfl rfl rfl rfl ?_
      refine KV (R_pickF rfl rfl) rfl ?_
      refine KV (R_move rfl) rfl ?_
      refine K_gno rfl rfl rfl rfl ?_
      refine K_gno rfl rfl rfl rfl ?_
      refine K_gno rfl rfl rfl rfl ?_
      refine K_gno rfl rfl rfl rfl ?_
      refine K_gno rfl rfl rfl rfl ?_
      refine KV (R_pickF rfl rfl) rfl ?_
      refine KV (R_assign rfl) rfl ?_
      refine K_nil ?_
      refine Q_then ?_
      refine K_ret ?_
      refine results_gen (rs := [.tmp 4]) (vs := [_]) rfl ⟨rfl, trivial⟩ ?_
      refine congrArg Value.bool (Eq.trans ?_ (sameM_dec a b).symm)
      simp_all [normA]
  ·
    intro h16
    refine K_gno rfl rfl rfl rfl ?_
    refine K_gno rfl rfl rfl rfl ?_
    refine K_gno rfl rfl rfl rfl ?_
    refine K_gno rfl rfl rfl rfl ?_
    refine K_gno rfl rfl rfl rfl ?_
    refine KV (R_pickF rfl rfl) rfl ?_
    refine KV (R_move rfl) rfl ?_
    refine K_gno rfl rfl rfl rfl ?_
    refine K_gno rfl rfl rfl rfl ?_
    refine K_gno rfl rfl rfl rfl ?_
    refine K_gno rfl rfl rfl rfl ?_
    refine K_gno rfl rfl rfl rfl ?_
    refine KV (R_pickF rfl rfl) rfl ?_
    refine KV (R_move rfl) rfl ?_
    refine K_gno rfl rfl rfl rfl ?_
    refine K_gno rfl rfl rfl rfl ?_
    refine K_gno rfl rfl rfl rfl ?_
    refine K_gno rfl rfl rfl rfl ?_
    refine K_gno rfl rfl rfl rfl ?_
    refine KV (R_pickF rfl rfl) rfl ?_
    refine KV (R_assign rfl) rfl ?_
    refine K_nil ?_
    refine Q_then ?_
    refine K_ret ?_
    refine results_gen (rs := [.tmp 4]) (vs := [_]) rfl ⟨rfl, trivial⟩ ?_
    refine congrArg Value.bool (Eq.trans ?_ (sameM_dec a b).symm)
    simp_all [normA]
end Go.Proofs.X

namespace Go.Proofs.X
open Go Pal Go.Proofs
attribute [local irreducible] Pal.KO Pal.KC Pal.KQ Pal.KD
theorem c30 : callable Tryz.prog F30 = true := by kernel_rfl
theorem c31 : callable Tryz.prog F31 = true := by kernel_rfl
theorem alike_spec (m a : Au) (v1 v2 v3 w1 w2 w3 : Value) (H : View) (hm : RepAu H m v1 v2 v3) (ha : RepAu H a w1 w2 w3) (hmo : AuOk m) (hao : AuOk a) (hmn : normA m = m) (hsm : sameM m a = true) : Sat Tryz.prog F2021 #[.agg #[v1, .int .i64 m.states, v2, v3], .agg #[w1, .int .i64 a.states, w2, w3]] H (fun r _ => r = .bool true) := by
  obtain ⟨mr, mrc, rfl⟩ := hm.r.shape
  obtain ⟨mf, mfc, rfl⟩ := hm.f.shape
  obtain ⟨mu, muc, rfl⟩ := hm.ushape
  obtain ⟨ar, arc, rfl⟩ := ha.r.shape
  obtain ⟨af, afc, rfl⟩ := ha.f.shape
  obtain ⟨au, auc, rfl⟩ := ha.ushape
  have hmul := hmo.ul
  have haul := hao.ul
  have hms := hmo.st
  have has := hao.st
  have hmr := hmo.rl
  have har := hao.rl
  have hmar := hmo.args2
  have haar := hao.args2
  have hmfl := hm.fl
  refine enterO (n := 83) (args := [.agg #[.slice mr m.ranks.length mrc, .int .i64 m.states, .slice mu m.rules.length muc, .slice mf m.final.length mfc], .agg #[.slice ar a.ranks.length arc, .int .i64 a.states, .slice au a.rules.length auc, .slice af a.final.length afc]]) Tryz.func31 rfl rfl rfl fun w0 => ?_
  refine K_seq ?_
  refine K_region ?_
  refine KA (A_box rfl) rfl fun b2 => ?_
  refine KA (A_box rfl) rfl fun b3 => ?_
  refine KV (R_assign rfl) rfl ?_
  refine K_nil ?_
  refine Q_then ?_
  refine K_seq ?_
  refine K_region ?_
  refine KV (R_loadW ty50 1 rfl rfl rfl rfl) rfl ?_
  refine K_call c31 rfl rfl (of_spec3 m _ _ _ H hm (by omega)) ?_
  rintro _ V1 hv1 ⟨x1, x2, x3, rfl, hx⟩
  refine K_call c67 rfl rfl (rsorted_spec m _ _ _ V1 hx (by omega) (by omega) (fun r hr => Nat.le_trans (hmar r hr) (by decide))) ?_
  rintro _ V2 hv2 ⟨s1, s2, s3, rfl, hS⟩
  rw [sortedM_norm hmo, hmn] at hS
  obtain ⟨sr, src, rfl⟩ := hS.r.shape
  obtain ⟨sf, sfc, rfl⟩ := hS.f.shape
  obtain ⟨su, suc, rfl⟩ := hS.ushape
  refine KA (A_alloc z42) rfl fun b5 => ?_
  refine K_storeW ty42 0 rfl rfl rfl rfl rfl rfl rfl ?_
  refine K_nil ?_
  refine Q_then ?_
  refine K_seq ?_
  refine K_seq ?_
  refine K_regionD (fin := false) (R := [0, 2, 1, 3, 4, 5, 6, 7, 8, 9, 10, 11, 12, 13, 14, 15, 16, 17, 18, 19, 20, 21]) (by kernel_rfl) mixed (.cons_cons _ (.cons_cons _ (.cons_cons _ (List.nil_sublist _)))) ?_
  refine D_val rfl rfl rfl (R_loadW ty50 2 rfl rfl rfl rfl) ?_
  refine D_val rfl rfl rfl (R_loadW ty42 1 rfl rfl rfl rfl) ?_
  refine D_call rfl rfl c31 rfl ⟨⟨0, rfl⟩, ⟨1, rfl⟩, ⟨2, rfl⟩, trivial⟩ (of_spec3 m _ _ _ V2 (hm.mono (hv1.trans hv2)) (by omega)) ?_
  rintro _ V3 hv3 ⟨y1, y2, y3, rfl, hy⟩
  refine D_call rfl rfl c30 rfl ⟨⟨0, rfl⟩, ⟨1, rfl⟩, ⟨2, rfl⟩, trivial⟩ (rsame_au_spec m a _ _ _ _ _ _ V3 hy (ha.mono (hv1.trans (hv2.trans hv3))) (by omega) (by omega) (fun r hr => Nat.le_trans (hmar r hr) (by decide)) (by omega) (by omega) (fun r hr => Nat.le_trans (haar r hr) (by decide)) (by omega) (by omega)) ?_
  rintro _ V4 hv4 rfl
  rw [hsm]
  refine D_val rfl rfl rfl (R_not rfl) ?_
  refine D_val rfl rfl rfl (R_move rfl) ?_
  refine D_splitB ?_ ?_
  ·
    intro h15
    cases h15
  ·
    intro h15
    refine D_val rfl rfl rfl (R_fieldAddr 2 fd50_2 rfl) ?_
    refine D_val rfl rfl rfl (R_loadO ty48 2 rfl rfl rfl rfl (fun _ => rfl) rfl) ?_
    refine D_val rfl rfl rfl (R_len sl48 rfl) ?_
    refine D_val rfl rfl rfl (R_fieldAddr 2 fd42_2 rfl) ?_
    refine D_val rfl rfl rfl (R_loadO ty40 0 rfl rfl rfl rfl (fun _ => rfl) rfl) ?_
    refine D_val rfl rfl rfl (R_len sl40 rfl) ?_
    refine D_val rfl rfl rfl (R_cmp rfl rfl rfl) ?_
    refine D_val rfl rfl rfl (R_pickF rfl rfl) ?_
    refine D_val rfl rfl rfl (R_move rfl) ?_
    refine D_split ?_ ?_
    ·
      intro h24
      exact absurd rfl h24
    ·
      intro h24
      refine D_val rfl rfl rfl (R_fieldAddr 3 fd50_3 rfl) ?_
      refine D_val rfl rfl rfl (R_loadO ty25 2 rfl rfl rfl rfl (fun _ => rfl) rfl) ?_
      refine D_val rfl rfl rfl (R_fieldAddr 3 fd42_3 rfl) ?_
      refine D_val rfl rfl rfl (R_loadO ty25 0 rfl rfl rfl rfl (fun _ => rfl) rfl) ?_
      refine D_call rfl rfl c60 rfl ⟨⟨0, rfl⟩, ⟨1, rfl⟩, ⟨2, rfl⟩, trivial⟩ (cmpl_spec m.final m.final _ _ V4 (hm.mono (hv1.trans (hv2.trans (hv3.trans hv4)))).f (hS.mono (hv3.trans hv4)).f hmfl hmfl) ?_
      rintro _ V5 hv5 rfl
      rw [cmpL_self]
      have hm5 := hm.mono (hv1.trans (hv2.trans (hv3.trans (hv4.trans hv5))))
      have hS5 := hS.mono (hv3.trans (hv4.trans hv5))
      refine D_val rfl rfl rfl (R_cmp rfl rfl rfl) ?_
      refine D_val rfl rfl rfl (R_pickF rfl rfl) ?_
      refine D_done ?_
      refine Q_then ?_
      refine K_if rfl (fun h31 => ?_) (fun h31 => ?_)
      ·
        exact absurd rfl h31
      ·
        refine K_skip ?_
        refine Q_then ?_
        refine K_seq ?_
        refine K_seq ?_
        refine K_region ?_
        refine KV (R_assign rfl) rfl ?_
        refine K_nil ?_
        refine Q_then ?_
        refine K_block ?_
        refine K_loopD (G := Nat × View) [4, 6, 32, 33, 34, 35, 36, 37, 38, 39, 40, 41, 42, 43, 44, 45, 46, 47, 48, 49, 50, 51, 52, 53, 54, 55, 56, 57, 58, 59, 60, 61, 62, 63, 64, 65, 66, 67, 68, 69, 70, 71, 72, 73, 74, 75, 76, 77, 78, 79, 80, 81, 82] (fun g => [(6, .int .i64 (g.1 : Int))]) (fun hl g => hl) (fun g => g.2) (fun g => (g.1 ≤ m.rules.length) ∧ (VLe V5 g.2)) (fun g => m.rules.length - g.1) (0, V5) ⟨Nat.zero_le _, VLe.refl _⟩ ⟨rfl, trivial⟩ (by simp only [args0, Nat.reduceAdd, del, memN, beqN, Nat.reduceBEq, cond_true, cond_false]; rfl) rfl rfl ?_
        rintro ⟨k, V⟩ ⟨hk, hV⟩
        dsimp only at hk hV
        dsimp only [List.set, List.cons_append, List.nil_append]
        refine K_seq ?_
        refine K_seq ?_
        refine K_region ?_
        refine KV (R_move rfl) rfl ?_
        refine KV (R_fieldAddr 2 fd50_2 rfl) rfl ?_
        refine KV (R_loadO ty48 2 rfl rfl rfl rfl (fun _ => rfl) rfl) rfl ?_
        refine KV (R_len sl48 rfl) rfl ?_
        refine KV (R_cmp rfl rfl rfl) rfl ?_
        refine K_nil ?_
        refine Q_then ?_
        refine K_if rfl (fun h36 => ?_) (fun h36 => ?_)
        ·
          have hk' : k < m.rules.length := by omega
          obtain ⟨xb, xo, xq, xx, xy, xe, xc, xs, xt, xw, xl⟩ := (hm5.mono hV).rule hk'
          cases xe
          obtain ⟨yb, yo, yq, yx, yy, ye, yc, ys, yt, yw, yl⟩ := (hS5.mono hV).rule hk'
          cases ye
          refine K_skip ?_
          refine Q_then ?_
          refine K_seq ?_
          refine K_block ?_
          refine K_seq ?_
          refine K_regionD (fin := false) (R := [0, 1, 2, 3, 4, 5, 6, 7, 8, 9, 10, 11, 12, 13, 14, 15, 16, 17, 18, 19, 20, 21, 22, 23, 24, 25, 26, 27, 28, 29, 30, 31, 32, 33, 34, 35, 36, 37, 38, 39, 40, 41, 42, 43]) (by kernel_rfl) mixed (.cons_cons _ (.cons_cons _ (.cons_cons _ (List.nil_sublist _)))) ?_
          refine D_val rfl rfl rfl (R_fieldAddr 2 fd50_2 rfl) ?_
          refine D_val rfl rfl rfl (R_loadO ty48 2 rfl rfl rfl rfl (fun _ => rfl) rfl) ?_
          refine D_val rfl rfl rfl (R_move rfl) ?_
          refine D_val rfl rfl rfl (R_indexN sl48 ty85 rfl rfl (by omega)) ?_
          refine D_val rfl rfl rfl (R_fieldAddr 0 fd85_0 rfl) ?_
          refine D_val rfl rfl rfl (R_loadH ty3 rfl (At.one (j := 0) xc rfl) rfl (fun _ => rfl) rfl) ?_
          refine D_val rfl rfl rfl (R_fieldAddr 2 fd42_2 rfl) ?_
          refine D_val rfl rfl rfl (R_loadO ty40 0 rfl rfl rfl rfl (fun _ => rfl) rfl) ?_
          refine D_val rfl rfl rfl (R_move rfl) ?_
          refine D_val rfl rfl rfl (R_indexN sl40 ty100 rfl rfl (by omega)) ?_
          refine D_val rfl rfl rfl (R_fieldAddr 0 fd100_0 rfl) ?_
          refine D_val rfl rfl rfl (R_loadH ty3 rfl (At.one (j := 0) yc rfl) rfl (fun _ => rfl) rfl) ?_
          refine D_val rfl rfl rfl (R_cmp rfl rfl rfl) ?_
          refine D_val rfl rfl rfl (R_move rfl) ?_
          refine D_split ?_ ?_
          ·
            intro h52
            exact absurd rfl h52
          ·
            intro h52
            refine D_val rfl rfl rfl (R_fieldAddr 2 fd50_2 rfl) ?_
            refine D_val rfl rfl rfl (R_loadO ty48 2 rfl rfl rfl rfl (fun _ => rfl) rfl) ?_
            refine D_val rfl rfl rfl (R_move rfl) ?_
            refine D_val rfl rfl rfl (R_indexN sl48 ty85 rfl rfl (by omega)) ?_
            refine D_val rfl rfl rfl (R_fieldAddr 2 fd85_2 rfl) ?_
            refine D_val rfl rfl rfl (R_loadH ty3 rfl (At.one (j := 2) xc rfl) rfl (fun _ => rfl) rfl) ?_
            refine D_val rfl rfl rfl (R_fieldAddr 2 fd42_2 rfl) ?_
            refine D_val rfl rfl rfl (R_loadO ty40 0 rfl rfl rfl rfl (fun _ => rfl) rfl) ?_
            refine D_val rfl rfl rfl (R_move rfl) ?_
            refine D_val rfl rfl rfl (R_indexN sl40 ty100 rfl rfl (by omega)) ?_
            refine D_val rfl rfl rfl (R_fieldAddr 2 fd100_2 rfl) ?_
            refine D_val rfl rfl rfl (R_loadH ty3 rfl (At.one (j := 2) yc rfl) rfl (fun _ => rfl) rfl) ?_
            refine D_val rfl rfl rfl (R_cmp rfl rfl rfl) ?_
            refine D_val rfl rfl rfl (R_pickF rfl rfl) ?_
            refine D_val rfl rfl rfl (R_move rfl) ?_
            refine D_split ?_ ?_
            ·
              intro h67
              exact absurd rfl h67
            ·
              intro h67
              refine D_val rfl rfl rfl (R_fieldAddr 2 fd50_2 rfl) ?_
              refine D_val rfl rfl rfl (R_loadO ty48 2 rfl rfl rfl rfl (fun _ => rfl) rfl) ?_
              refine D_val rfl rfl rfl (R_move rfl) ?_
              refine D_val rfl rfl rfl (R_indexN sl48 ty85 rfl rfl (by omega)) ?_
              refine D_val rfl rfl rfl (R_fieldAddr 1 fd85_1 rfl) ?_
              refine D_val rfl rfl rfl (R_loadH ty25 rfl (At.one (j := 1) xc rfl) rfl (fun _ => rfl) rfl) ?_
              refine D_val rfl rfl rfl (R_fieldAddr 2 fd42_2 rfl) ?_
              refine D_val rfl rfl rfl (R_loadO ty40 0 rfl rfl rfl rfl (fun _ => rfl) rfl) ?_
              refine D_val rfl rfl rfl (R_move rfl) ?_
              refine D_val rfl rfl rfl (R_indexN sl40 ty100 rfl rfl (by omega)) ?_
              refine D_val rfl rfl rfl (R_fieldAddr 1 fd100_1 rfl) ?_
              refine D_val rfl rfl rfl (R_loadH ty25 rfl (At.one (j := 1) yc rfl) rfl (fun _ => rfl) rfl) ?_
              refine D_call rfl rfl c60 rfl ⟨⟨0, rfl⟩, ⟨1, rfl⟩, ⟨2, rfl⟩, trivial⟩ (cmpl_spec m.rules[k].args m.rules[k].args _ _ V xs ys xl xl) ?_
              rintro _ V6 hv6 rfl
              rw [cmpL_self]
              refine D_val rfl rfl rfl (R_cmp rfl rfl rfl) ?_
              refine D_val rfl rfl rfl (R_pickF rfl rfl) ?_
              refine D_done ?_
              refine Q_then ?_
              refine K_if rfl (fun h82 => ?_) (fun h82 => ?_)
              ·
                exact absurd rfl h82
              ·
                refine K_skip ?_
                refine Q_block ?_
                refine Q_then ?_
                refine K_region ?_
                refine KV (R_move rfl) rfl ?_
                refine KV (R_add rfl rfl (by omega)) rfl ?_
                refine KV (R_assign rfl) rfl ?_
                refine K_nil ?_
                refine Q_nextD (k + 1, V6) ⟨hk', hV.trans hv6⟩ (by (try dsimp only); omega) ⟨rfl, trivial⟩ rfl rfl rfl
        ·
          refine K_exit ?_
          refine Q_then_exit ?_
          refine Q_then_exit ?_
          refine Q_block_exit ?_
          refine Q_then ?_
          refine K_seq ?_
          refine K_region ?_
          refine KV (R_assign rfl) rfl ?_
          refine K_nil ?_
          refine Q_then ?_
          refine K_ret ?_
          refine results_gen (rs := [.tmp 4]) (vs := [_]) rfl ⟨rfl, trivial⟩ ?_
          rfl
end Go.Proofs.X

namespace Go.Proofs.X
open Go Pal Go.Proofs
attribute [local irreducible] Pal.KO Pal.KC Pal.KQ Pal.KD
theorem c2020 : callable Tryz.prog F2020 = true := by kernel_rfl
theorem c2021 : callable Tryz.prog F2021 = true := by kernel_rfl
theorem c2022 : callable Tryz.prog F2022 = true := by kernel_rfl
theorem validity_law (a : Au) (vr vu vf : Value) (H : View) (ha : RepAu H a vr vu vf) : Sat Tryz.prog F2002 #[.agg #[vr, .int .i64 a.states, vu, vf]] H (fun v _ => v = .bool true) := by
  obtain ⟨ar, arc, rfl⟩ := ha.r.shape
  obtain ⟨af, afc, rfl⟩ := ha.f.shape
  obtain ⟨au, auc, rfl⟩ := ha.ushape
  have hrl := ha.rl
  have hul := ha.ul
  have hfl := ha.fl
  refine enterO (n := 76) (args := [.agg #[.slice ar a.ranks.length arc, .int .i64 a.states, .slice au a.rules.length auc, .slice af a.final.length afc]]) Tryz.func5 rfl rfl rfl fun w0 => ?_
  refine K_seq ?_
  refine K_region ?_
  refine KA (A_box rfl) rfl fun b1 => ?_
  refine KV (R_assign rfl) rfl ?_
  refine K_nil ?_
  refine Q_then ?_
  refine K_seq ?_
  refine K_seq ?_
  refine K_region ?_
  refine K_call c2009 rfl rfl (known32_spec _) ?_
  rintro _ V1 hv1 rfl
  refine KV (R_not rfl) rfl ?_
  refine K_nil ?_
  refine Q_then ?_
  refine K_ifB rfl (fun h7 => ?_) (fun h7 => ?_)
  ·
    cases h7
  ·
    refine K_skip ?_
    refine Q_then ?_
    refine K_seq ?_
    refine K_seq ?_
    refine K_region ?_
    refine KV (R_fieldAddr 0 fd42_0 rfl) rfl ?_
    refine KV (R_loadO ty25 0 rfl rfl rfl rfl (fun _ => rfl) rfl) rfl ?_
    refine KV (R_len sl25 rfl) rfl ?_
    refine KV (R_cmp rfl rfl rfl) rfl ?_
    refine KV (R_move rfl) rfl ?_
    refine K_split ?_ ?_
    ·
      intro h12
      refine K_gno rfl rfl rfl rfl ?_
      refine K_gno rfl rfl rfl rfl ?_
      refine K_gno rfl rfl rfl rfl ?_
      refine K_gno rfl rfl rfl rfl ?_
      refine KV (R_pickT rfl rfl) rfl ?_
      refine KV (R_move rfl) rfl ?_
      refine K_gno rfl rfl rfl rfl ?_
      refine K_gno rfl rfl rfl rfl ?_
      refine K_gno rfl rfl rfl rfl ?_
      refine K_gno rfl rfl rfl rfl ?_
      refine KV (R_pickT rfl rfl) rfl ?_
      refine K_nil ?_
      refine Q_then ?_
      refine K_ifT rfl ?_
      refine K_seq ?_
      refine K_region ?_
      refine KV (R_assign rfl) rfl ?_
      refine K_nil ?_
      refine Q_then ?_
      refine K_ret ?_
      refine Q_then_ret ?_
      refine results_gen (rs := [.tmp 2]) (vs := [_]) rfl ⟨rfl, trivial⟩ ?_
      rfl
    ·
      intro h12
      refine K_gyes rfl rfl ?_
      refine KV (R_fieldAddr 2 fd42_2 rfl) rfl ?_
      refine K_gyes rfl rfl ?_
      refine KV (R_loadO ty40 0 rfl rfl rfl rfl (fun _ => rfl) rfl) rfl ?_
      refine K_gyes rfl rfl ?_
      refine KV (R_len sl40 rfl) rfl ?_
      refine K_gyes rfl rfl ?_
      refine KV (R_cmp rfl rfl rfl) rfl ?_
      refine KV (R_pickF rfl rfl) rfl ?_
      refine KV (R_move rfl) rfl ?_
      refine K_split ?_ ?_
      ·
        intro h18
        refine K_gno rfl rfl rfl rfl ?_
        refine K_gno rfl rfl rfl rfl ?_
        refine K_gno rfl rfl rfl rfl ?_
        refine K_gno rfl rfl rfl rfl ?_
        refine KV (R_pickT rfl rfl) rfl ?_
        refine K_nil ?_
        refine Q_then ?_
        refine K_ifT rfl ?_
        refine K_seq ?_
        refine K_region ?_
        refine KV (R_assign rfl) rfl ?_
        refine K_nil ?_
        refine Q_then ?_
        refine K_ret ?_
        refine Q_then_ret ?_
        refine results_gen (rs := [.tmp 2]) (vs := [_]) rfl ⟨rfl, trivial⟩ ?_
        rfl
      ·
        intro h18
        refine K_gyes rfl rfl ?_
        refine KV (R_fieldAddr 3 fd42_3 rfl) rfl ?_
        refine K_gyes rfl rfl ?_
        refine KV (R_loadO ty25 0 rfl rfl rfl rfl (fun _ => rfl) rfl) rfl ?_
        refine K_gyes rfl rfl ?_
        refine KV (R_len sl25 rfl) rfl ?_
        refine K_gyes rfl rfl ?_
        refine KV (R_cmp rfl rfl rfl) rfl ?_
        refine KV (R_pickF rfl rfl) rfl ?_
        refine K_nil ?_
        refine Q_then ?_
        refine K_if rfl (fun h23 => ?_) (fun h23 => ?_)
        ·
          refine K_seq ?_
          refine K_region ?_
          refine KV (R_assign rfl) rfl ?_
          refine K_nil ?_
          refine Q_then ?_
          refine K_ret ?_
          refine Q_then_ret ?_
          refine results_gen (rs := [.tmp 2]) (vs := [_]) rfl ⟨rfl, trivial⟩ ?_
          rfl
        ·
          refine K_skip ?_
          refine Q_then ?_
          refine K_seq ?_
          refine K_region ?_
          refine KV (R_loadW ty42 0 rfl rfl rfl rfl) rfl ?_
          refine K_call c20 rfl rfl (rcheck_spec a _ _ _ V1 (ha.mono hv1)) ?_
          rintro _ V2 hv2 rfl
          refine KV (R_assign rfl) rfl ?_
          refine K_nil ?_
          refine Q_then ?_
          refine K_seq ?_
          refine K_region ?_
          refine KV (R_loadW ty42 0 rfl rfl rfl rfl) rfl ?_
          refine K_call c17 rfl rfl (to_spec a _ _ _ V2 (ha.mono (hv1.trans hv2))) ?_
          rintro _ V3 hv3 ⟨x1, x2, x3, rfl, hx⟩
          refine K_call c2020 rfl rfl (normalize_spec a _ _ _ V3 hx) ?_
          rintro _ V4 hv4 ⟨n1, n2, n3, rfl, hB⟩
          have hbE : auErr a ≠ 0 → errAu (auErr a) (normA a) = zeroA := errAu_no
          have hb0 : auErr a = 0 → errAu (auErr a) (normA a) = normA a := errAu_ok
          generalize errAu (auErr a) (normA a) = b at *
          obtain ⟨br, brc, rfl⟩ := hB.r.shape
          obtain ⟨bf, bfc, rfl⟩ := hB.f.shape
          obtain ⟨bu, buc, rfl⟩ := hB.ushape
          refine KV (R_move rfl) rfl ?_
          refine KV (R_extract rfl rfl) rfl ?_
          refine KV (R_extract rfl rfl) rfl ?_
          refine KA (A_alloc z50) rfl fun b4 => ?_
          refine K_storeW ty50 0 rfl rfl rfl rfl rfl rfl rfl ?_
          refine KV (R_assign rfl) rfl ?_
          refine K_nil ?_
          refine Q_then ?_
          refine K_seq ?_
          refine K_seq ?_
          refine K_region ?_
          refine KV (R_loadW ty42 1 rfl rfl rfl rfl) rfl ?_
          refine K_call c17 rfl rfl (to_spec a _ _ _ V4 (ha.mono (hv1.trans (hv2.trans (hv3.trans hv4))))) ?_
          rintro _ V5 hv5 ⟨y1, y2, y3, rfl, hy⟩
          refine K_call c77 rfl rfl (ncheck_spec a _ _ _ V5 hy) ?_
          rintro _ V6 hv6 rfl
          refine KV (R_move rfl) rfl ?_
          refine KV (R_cmp rfl rfl rfl) rfl ?_
          refine KV (R_move rfl) rfl ?_
          refine K_split ?_ ?_
          ·
            intro h37
            exact absurd rfl h37
          ·
            intro h37
            refine K_gyes rfl rfl ?_
            refine KV (R_move rfl) rfl ?_
            refine K_gyes rfl rfl ?_
            refine KV (R_move rfl) rfl ?_
            refine K_gyes rfl rfl ?_
            refine KV (R_cmp rfl rfl rfl) rfl ?_
            refine KV (R_pickF rfl rfl) rfl ?_
            refine K_nil ?_
            refine Q_then ?_
            refine K_if rfl (fun h41 => ?_) (fun h41 => ?_)
            ·
              exact absurd rfl h41
            ·
              refine K_skip ?_
              refine Q_then ?_
              refine K_seq ?_
              refine K_regionD (fin := false) (R := [0, 1, 2, 3, 4, 5, 6, 7, 8, 9, 10, 11, 12, 13, 14, 15, 16, 17, 18, 19, 20, 21, 22, 23, 24, 25, 26, 27, 28, 29, 30, 31, 32, 33, 34]) (by kernel_rfl) mixed (.cons_cons _ (.cons_cons _ (List.nil_sublist _))) ?_
              refine D_val rfl rfl rfl (R_move rfl) ?_
              refine D_val rfl rfl rfl (R_cmp rfl rfl rfl) ?_
              refine D_val rfl rfl rfl (R_move rfl) ?_
              refine D_split ?_ ?_
              ·
                intro h44
                obtain rfl := hbE h44
                refine D_val rfl rfl rfl (R_fieldAddr 1 fd50_1 rfl) ?_
                refine D_val rfl rfl rfl (R_loadO ty3 0 rfl rfl rfl rfl (fun _ => rfl) rfl) ?_
                refine D_val rfl rfl rfl (R_cmp rfl rfl rfl) ?_
                refine D_val rfl rfl rfl (R_pickT rfl rfl) ?_
                refine D_val rfl rfl rfl (R_move rfl) ?_
                refine D_split ?_ ?_
                ·
                  intro h49
                  refine D_val rfl rfl rfl (R_fieldAddr 2 fd50_2 rfl) ?_
                  refine D_val rfl rfl rfl (R_loadO ty48 0 rfl rfl rfl rfl (fun _ => rfl) rfl) ?_
                  refine D_val rfl rfl rfl (R_len sl48 rfl) ?_
                  refine D_val rfl rfl rfl (R_cmp rfl rfl rfl) ?_
                  refine D_val rfl rfl rfl (R_pickT rfl rfl) ?_
                  refine D_val rfl rfl rfl (R_move rfl) ?_
                  refine D_split ?_ ?_
                  ·
                    intro h55
                    refine D_val rfl rfl rfl (R_fieldAddr 0 fd50_0 rfl) ?_
                    refine D_val rfl rfl rfl (R_loadO ty47 0 rfl rfl rfl rfl (fun _ => rfl) rfl) ?_
                    refine D_val rfl rfl rfl (R_len sl47 rfl) ?_
                    refine D_val rfl rfl rfl (R_cmp rfl rfl rfl) ?_
                    refine D_val rfl rfl rfl (R_pickT rfl rfl) ?_
                    refine D_val rfl rfl rfl (R_move rfl) ?_
                    refine D_split ?_ ?_
                    ·
                      intro h61
                      refine D_skip rfl rfl ?_
                      refine D_skip rfl rfl ?_
                      refine D_skip rfl rfl ?_
                      refine D_skip rfl rfl ?_
                      refine D_skip rfl rfl ?_
                      refine D_skip rfl rfl ?_
                      refine D_skip rfl rfl ?_
                      refine D_skip rfl rfl ?_
                      refine D_skip rfl rfl ?_
                      refine D_skip rfl rfl ?_
                      refine D_skip rfl rfl ?_
                      refine D_skip rfl rfl ?_
                      refine D_skip rfl rfl ?_
                      refine D_val rfl rfl rfl (R_pickT rfl rfl) ?_
                      refine D_val rfl rfl rfl (R_assign rfl) ?_
                      refine D_done ?_
                      refine Q_then ?_
                      refine K_ret ?_
                      refine results_gen (rs := [.tmp 2]) (vs := [_]) rfl ⟨rfl, trivial⟩ ?_
                      rfl
                    ·
                      intro h61
                      exact absurd rfl h61
                  ·
                    intro h55
                    exact absurd rfl h55
                ·
                  intro h49
                  exact absurd rfl h49
              ·
                intro h44
                have hz0 := Decidable.not_not.1 h44
                obtain rfl := hb0 hz0
                have hok := AuOk.of hz0
                refine D_skip rfl rfl ?_
                refine D_skip rfl rfl ?_
                refine D_skip rfl rfl ?_
                refine D_val rfl rfl rfl (R_pickF rfl rfl) ?_
                refine D_val rfl rfl rfl (R_move rfl) ?_
                refine D_skip rfl rfl ?_
                refine D_skip rfl rfl ?_
                refine D_skip rfl rfl ?_
                refine D_skip rfl rfl ?_
                refine D_val rfl rfl rfl (R_pickF rfl rfl) ?_
                refine D_val rfl rfl rfl (R_move rfl) ?_
                refine D_skip rfl rfl ?_
                refine D_skip rfl rfl ?_
                refine D_skip rfl rfl ?_
                refine D_skip rfl rfl ?_
                refine D_val rfl rfl rfl (R_pickF rfl rfl) ?_
                refine D_val rfl rfl rfl (R_move rfl) ?_
                refine D_val rfl rfl rfl (R_move rfl) ?_
                refine D_val rfl rfl rfl (R_cmp rfl rfl rfl) ?_
                refine D_val rfl rfl rfl (R_move rfl) ?_
                refine D_split ?_ ?_
                ·
                  intro h64
                  refine D_val rfl rfl rfl (R_loadW ty50 0 rfl rfl rfl rfl) ?_
                  refine D_val rfl rfl rfl (R_loadW ty42 1 rfl rfl rfl rfl) ?_
                  refine D_call rfl rfl c2021 rfl ⟨⟨0, rfl⟩, ⟨1, rfl⟩, trivial⟩ (alike_spec (normA a) a _ _ _ _ _ _ V6 (hB.mono (hv5.trans hv6)) (ha.mono (hv1.trans (hv2.trans (hv3.trans (hv4.trans (hv5.trans hv6)))))) (normA_ok hok) hok (norm_idem a) (same_norm a)) ?_
                  rintro _ V7 hv7 rfl
                  refine D_val rfl rfl rfl (R_pickT rfl rfl) ?_
                  refine D_val rfl rfl rfl (R_move rfl) ?_
                  refine D_splitB ?_ ?_
                  ·
                    intro h69
                    refine D_val rfl rfl rfl (R_loadW ty50 0 rfl rfl rfl rfl) ?_
                    refine D_val rfl rfl rfl (R_loadW ty42 1 rfl rfl rfl rfl) ?_
                    refine D_call rfl rfl c17 rfl ⟨⟨0, rfl⟩, ⟨1, rfl⟩, trivial⟩ (to_spec a _ _ _ V7 (ha.mono (hv1.trans (hv2.trans (hv3.trans (hv4.trans (hv5.trans (hv6.trans hv7)))))))) ?_
                    rintro _ V8 hv8 ⟨z1, z2, z3, rfl, hz⟩
                    refine D_call rfl rfl c2022 rfl ⟨⟨0, rfl⟩, ⟨1, rfl⟩, trivial⟩ (nequal_spec (normA a) a _ _ _ _ _ _ V8 (hB.mono (hv5.trans (hv6.trans (hv7.trans hv8)))) hz) ?_
                    rintro _ V9 hv9 rfl
                    rw [same_norm]
                    refine D_val rfl rfl rfl (R_pickT rfl rfl) ?_
                    refine D_val rfl rfl rfl (R_pickF rfl rfl) ?_
                    refine D_val rfl rfl rfl (R_assign rfl) ?_
                    refine D_done ?_
                    refine Q_then ?_
                    refine K_ret ?_
                    refine results_gen (rs := [.tmp 2]) (vs := [_]) rfl ⟨rfl, trivial⟩ ?_
                    rfl
                  ·
                    intro h69
                    exact absurd h69 (by decide)
                ·
                  intro h64
                  exact absurd hz0 h64
end Go.Proofs.X
