/-
  Part of the proof: rules for walks, contracts of the functions that the statements reach, plain laws. Own work. No statement of the seat is proved here.
-/
import Derived.Test.YtknnjemehafecaaGreatPart4
import Derived.Test.YtknnjemehafecaaGreatPart2
import Derived.Test.YtknnjemehafecaaGreatPart1
import Derived.ChangeArms
import Derived.ChangeSame
import Derived.WideKeyArgs
import Derived.Lib.LaidTab
namespace Go.Proofs.X
open Go Pal Go.Proofs
attribute [local irreducible] Pal.KO Pal.KC Pal.KQ Pal.KD
theorem c2146 : callable Tryz.prog F2146 = true := by kernel_rfl
theorem c2221 : callable Tryz.prog F2221 = true := by kernel_rfl
end Go.Proofs.X

namespace Go.Proofs.X
open Go Pal Go.Proofs
attribute [local irreducible] Pal.KO Pal.KC Pal.KQ Pal.KD
theorem ty2220 : Ty Tryz.prog T2220 true 2 := .of (by kernel_rfl)
theorem ty2225 : Ty Tryz.prog T2225 false 1 := .of (by kernel_rfl)
theorem ty2227 : Ty Tryz.prog T2227 true 4 := .of (by kernel_rfl)
theorem sl2222 : slcOk Tryz.prog T2222 T2227 := by unfold slcOk; kernel_rfl
theorem sl2225 : slcOk Tryz.prog T2225 T2220 := by unfold slcOk; kernel_rfl
theorem fd2227_0 : fldOk Tryz.prog T2227 0 0 = true := by kernel_rfl
theorem fd2227_1 : fldOk Tryz.prog T2227 1 1 = true := by kernel_rfl
theorem fd2227_2 : fldOk Tryz.prog T2227 2 2 = true := by kernel_rfl
theorem z2220 : zeroOk Tryz.prog T2220 (.agg #[.int .i64 0, .int .i64 0]) := .of (by kernel_rfl)
theorem z2227 : zeroOk Tryz.prog T2227 (.agg #[.int .i64 0, .slice none 0 0, .int .i64 0, .int .i64 0]) := .of (by kernel_rfl)
theorem mt2230 : Tryz.prog.underlying T2230 = some (.map T2220 T30) := by kernel_rfl
theorem laidB : laidOutB Tryz.prog = true := by kernel_rfl
theorem keyB : KeyL Tryz.prog T2220 keB GB := keB_law laidB (by kernel_rfl) (by kernel_rfl) (by kernel_rfl) Tryz.underlying133 ⟨rfl, rfl, by decide⟩ ⟨rfl, rfl, by decide⟩ (by kernel_rfl) (by kernel_rfl) (by kernel_rfl) (by kernel_rfl)
theorem keyD : KeyL Tryz.prog T2236 keD GD := keD_law laidB (by kernel_rfl) (by kernel_rfl) (by kernel_rfl) Tryz.underlying191 ⟨rfl, rfl, by decide⟩ ⟨rfl, rfl, by decide⟩ ⟨rfl, rfl, by decide⟩ Tryz.underlying133 ⟨rfl, rfl, by decide⟩ ⟨rfl, rfl, by decide⟩ (by kernel_rfl) (by kernel_rfl) (by kernel_rfl) (by kernel_rfl) (by kernel_rfl)
set_option maxHeartbeats 2000000 in
theorem leastsB_spec (a : Au) (hok : AuOk a) (sa : Option Addr) (sc : Nat) (cells : List Value) (H : View) (sS : SlAt H (.slice sa a.rules.length sc) a.rules.length cells) (sL : RepL (RepS H) 4 a.rules cells) :
    Sat Tryz.prog F2235 #[.slice sa a.rules.length sc] H (fun r H' => ∃ mb kvs bt, r = mp mb ∧ H' mb = some (mapObK keB kvs) ∧ BestM H' kvs bt ∧ GoodK GB kvs ∧ Best a.rules bt) := by
  have hul := hok.ul
  refine enterO (n := 73) (args := [.slice sa a.rules.length sc]) Tryz.func121 rfl rfl rfl fun w0 => ?_
  refine K_seq ?_
  refine K_region ?_
  refine KV (R_assign rfl) rfl ?_
  refine K_nil ?_
  refine Q_then ?_
  refine K_seq ?_
  refine K_region ?_
  refine KA (A_makeMap) rfl fun b14 => ?_
  refine KV (R_assign rfl) rfl ?_
  refine K_nil ?_
  refine Q_then ?_
  refine K_seq ?_
  refine K_seq ?_
  refine K_region ?_
  refine KV (R_assign rfl) rfl ?_
  refine K_nil ?_
  refine Q_then ?_
  refine K_block ?_
  refine K_loopD (G := Bool × View × KVs × BT) [4, 6, 7, 9, 10, 11, 12, 13, 15, 16, 17, 18, 19, 20, 21, 22, 23, 24, 25, 26, 27, 28, 29, 30, 31, 32, 33, 34, 35, 36, 37, 38, 39, 40, 41, 42, 43, 44, 45, 46, 47, 48, 49, 50, 51, 52, 53, 54, 55, 56, 57, 58, 59, 60, 61, 62, 63, 64, 65, 66, 67, 68, 69, 70, 71] (fun g => [(4, .bool g.1)]) (fun hl g => (hl.set 0 (blk b14 (mapObK keB g.2.2.1)))) (fun g => g.2.1) (fun g => (VLe H g.2.1) ∧ (BestM g.2.1 g.2.2.1 g.2.2.2) ∧ (InvB a.rules g.2.2.2) ∧ (∃ n, g.2.2.2 = chainB a.rules n) ∧ (g.1 = false → Best a.rules g.2.2.2) ∧ (GoodK GB g.2.2.1)) (fun g => 2 * muA a g.2.2.2 + (if g.1 = true then 1 else 0)) (true, H, [], fun _ => none) ⟨VLe.refl _, BestM.zero _, InvB.zero _, ⟨0, rfl⟩, fun h => (by cases h), GoodK.nil _⟩ ⟨rfl, trivial⟩ (by simp only [args0, Nat.reduceAdd, del, memN, beqN, Nat.reduceBEq, cond_true, cond_false]; rfl) rfl rfl ?_
  rintro ⟨more, V, kvs, bt⟩ ⟨hV, hM, hI, hch, hcl, hG⟩
  dsimp only at hV hM hI hch hcl hG
  dsimp only [List.set, List.cons_append, List.nil_append]
  refine K_seq ?_
  refine K_seq ?_
  refine K_region ?_
  refine KV (R_move rfl) rfl ?_
  refine K_nil ?_
  refine Q_then ?_
  refine K_ifB rfl (fun hmr => ?_) (fun hmr => ?_)
  ·
    refine K_skip ?_
    refine Q_then ?_
    refine K_block ?_
    refine K_scope ?_
    refine K_seq ?_
    refine K_region ?_
    refine KV (R_assign rfl) rfl ?_
    refine K_nil ?_
    refine Q_then ?_
    refine K_seq ?_
    refine K_label ?_
    refine Q_then ?_
    refine K_seq ?_
    refine K_region ?_
    refine KV (R_move rfl) rfl ?_
    refine KV (R_len sl2222 rfl) rfl ?_
    refine KV (R_move rfl) rfl ?_
    refine K_nil ?_
    refine Q_then ?_
    refine K_block ?_
    refine K_loopD (G := Nat × View × KVs) [4, 6, 7, 9, 10, 11, 12, 13, 18, 19, 20, 21, 22, 23, 24, 25, 26, 27, 28, 29, 30, 31, 32, 33, 34, 35, 36, 37, 38, 39, 40, 41, 42, 43, 44, 45, 46, 47, 48, 49, 50, 51, 52, 53, 54, 55, 56, 57, 58, 59, 60, 61, 62, 63, 64, 65, 66, 67, 68, 69, 70, 71] (fun g => [(18, .int .i64 (g.1 : Int)), (4, .bool (passP (a.rules.take g.1) bt).2)]) (fun hl g => (hl.set 0 (blk b14 (mapObK keB g.2.2)))) (fun g => g.2.1) (fun g => (g.1 ≤ a.rules.length) ∧ (VLe V g.2.1) ∧ (BestM g.2.1 g.2.2 (passP (a.rules.take g.1) bt).1) ∧ (GoodK GB g.2.2)) (fun g => a.rules.length - g.1) (0, V, kvs) ⟨Nat.zero_le _, VLe.refl _, hM, hG⟩ ⟨rfl, rfl, trivial⟩ (by simp only [args0, Nat.reduceAdd, del, memN, beqN, Nat.reduceBEq, cond_true, cond_false]; rfl) rfl rfl ?_
    rintro ⟨k, V2, kv2⟩ ⟨hk0, hV2, hM2, hG2⟩
    dsimp only at hk0 hV2 hM2 hG2
    dsimp only [List.set, List.cons_append, List.nil_append]
    refine K_seq ?_
    refine K_region ?_
    refine KV (R_cmp rfl rfl rfl) rfl ?_
    refine K_nil ?_
    refine Q_then ?_
    refine K_seq ?_
    refine K_if rfl (fun h19 => ?_) (fun h19 => ?_)
    ·
      have hk' : k < a.rules.length := by omega
      obtain ⟨xb, xo, xcs, xe, xcl, xR, xA⟩ := (SlAt.mono sS (hV.trans hV2)).elem (sL.imp fun x cs h => h.mono (hV.trans hV2)) (i := k) hk' rfl
      cases xe
      obtain ⟨ra, rc, rcells, rfl, rS, rL, rs1⟩ := xR
      have hr2 := rank_two hok (List.getElem_mem hk')
      have hI2 := passP_inv hI k
      have hgt := au_good hok (hok.ru _ (List.getElem_mem hk')).2.2.2.2
      refine K_skip ?_
      refine Q_then ?_
      refine K_seq ?_
      refine K_block ?_
      refine K_seq ?_
      refine K_region ?_
      refine KV (R_indexN sl2222 ty2227 rfl rfl (by omega)) rfl ?_
      refine KV (R_loadH ty2227 rfl (xA) rfl (fun e => by cases e) rfl) rfl ?_
      refine KA (A_alloc z2227) rfl fun b6 => ?_
      refine K_storeW ty2227 0 rfl rfl rfl rfl rfl rfl rfl ?_
      refine K_nil ?_
      refine Q_then ?_
      refine K_seq ?_
      refine K_region ?_
      refine KV (R_fieldAddr 0 fd2227_0 rfl) rfl ?_
      refine KV (R_loadO ty3 0 rfl rfl rfl rfl (fun _ => rfl) rfl) rfl ?_
      refine KV (R_build z30 pl30 rfl rfl) rfl ?_
      refine KA (A_alloc z30) rfl fun b7 => ?_
      refine K_storeW ty30 0 rfl rfl rfl rfl rfl rfl rfl ?_
      refine K_nil ?_
      refine Q_then ?_
      refine K_seq ?_
      refine K_seq ?_
      refine K_region ?_
      refine KV (R_fieldAddr 1 fd2227_1 rfl) rfl ?_
      refine KV (R_loadO ty2225 1 rfl rfl rfl rfl (fun _ => rfl) rfl) rfl ?_
      refine KV (R_len sl2225 rfl) rfl ?_
      refine KV (R_move rfl) rfl ?_
      refine K_nil ?_
      refine Q_then ?_
      refine K_block ?_
      refine K_nilrow T30 2 ?_
      refine K_loopD (G := Nat × Value × List Value × List Tr) [9, 10, 11, 28, 29, 30, 31, 32, 33, 34, 35, 36, 37, 38, 39, 40, 41, 42, 43, 44, 45, 46] (fun g => [(28, .int .i64 (g.1 : Int))]) (fun hl g => ((hl.set 0 (row g.2.1 T30 2 g.1 g.2.2.1)).set 1 (blk b7 (.cells #[.int .i64 a.rules[k].sym, g.2.1] T30 (0, 0))))) (fun g => V2) (fun g => (g.1 ≤ a.rules[k].args.length) ∧ (argsB (passP (a.rules.take k) bt).1 (a.rules[k].args.take g.1) = some g.2.2.2) ∧ (RepL (RepT V2) 2 g.2.2.2 g.2.2.1) ∧ (∃ ad cp, g.2.1 = .slice ad g.1 cp)) (fun g => a.rules[k].args.length - g.1) (0, nilS, [], []) ⟨Nat.zero_le _, rfl, .nil, _, _, rfl⟩ ⟨rfl, trivial⟩ (by simp only [args0, Nat.reduceAdd, del, memN, beqN, Nat.reduceBEq, cond_true, cond_false]; rfl) rfl rfl ?_
      rintro ⟨i, w, oc, ts⟩ ⟨hi0, hts, hL, hw⟩
      dsimp only at hi0 hts hL hw
      dsimp only [List.set, List.cons_append, List.nil_append]
      obtain ⟨wa, wc, rfl⟩ := hw
      refine K_seq ?_
      refine K_region ?_
      refine KV (R_cmp rfl rfl rfl) rfl ?_
      refine K_nil ?_
      refine Q_then ?_
      refine K_seq ?_
      refine K_if rfl (fun h29 => ?_) (fun h29 => ?_)
      ·
        have hi' : i < a.rules[k].args.length := by omega
        obtain ⟨qb, qo, qcs, qe, qcl, qR, qA⟩ := rS.elem rL (i := i) hi' rfl
        cases qe
        cases qR
        have hgq := au_good hok ((hok.ru _ (List.getElem_mem hk')).2.2.2.1 _ (List.getElem_mem hi'))
        refine K_skip ?_
        refine Q_then ?_
        refine K_seq ?_
        refine K_block ?_
        refine K_seq ?_
        refine K_region ?_
        refine KV (R_indexN sl2225 ty2220 rfl rfl (by omega)) rfl ?_
        refine KV (R_loadH ty2220 rfl (qA) rfl (fun e => by cases e) rfl) rfl ?_
        refine KA (A_alloc z2220) rfl fun b9 => ?_
        refine K_storeW ty2220 0 rfl rfl rfl rfl rfl rfl rfl ?_
        refine K_nil ?_
        refine Q_then ?_
        refine K_seq ?_
        rcases hbq : (passP (a.rules.take k) bt).1 a.rules[k].args[i] with _ | u
        ·
          refine K_region ?_
          refine KV (R_move rfl) rfl ?_
          refine KV (R_loadW ty2220 0 rfl rfl rfl rfl) rfl ?_
          refine KV (R_lookTK mt2230 keyB (hgq) hG2 z30 rfl rfl (MapAtK.at 4 rfl) (v := .tuple #[.agg #[.int .i64 0, .slice none 0 0], .bool false]) (by rw [BestM.no hM2 hbq]; rfl)) rfl ?_
          refine KV (R_move rfl) rfl ?_
          refine KV (R_extract rfl rfl) rfl ?_
          refine KV (R_extract rfl rfl) rfl ?_
          refine KA (A_alloc z30) rfl fun b10 => ?_
          refine K_storeW ty30 0 rfl rfl rfl rfl rfl rfl rfl ?_
          refine KV (R_assign rfl) rfl ?_
          refine K_nil ?_
          refine Q_then ?_
          refine K_seq ?_
          refine K_seq ?_
          refine K_region ?_
          refine KV (R_move rfl) rfl ?_
          refine KV (R_not rfl) rfl ?_
          refine K_nil ?_
          refine Q_then ?_
          refine K_ifB rfl (fun h39 => ?_) (fun h39 => ?_)
          ·
            refine K_exit ?_
            refine Q_then_exit ?_
            refine Q_block_other rfl ?_
            refine Q_then_exit ?_
            refine Q_then_exit ?_
            refine Q_block_other rfl ?_
            refine Q_then_exit ?_
            refine Q_block_exit ?_
            refine Q_then ?_
            refine K_region ?_
            refine KV (R_add rfl rfl (by omega)) rfl ?_
            refine KV (R_move rfl) rfl ?_
            refine K_nil ?_
            refine KQ_sel [5] rfl ?_
            have hn : newB (passP (a.rules.take k) bt).1 a.rules[k] = none := newB_none (argsB_none hi' hbq)
            refine Q_nextD (k + 1, V2, kv2) ⟨hk', hV2, by rw [passP_succ hk', stepP_is, show stepB (passP (a.rules.take k) bt).1 a.rules[k] = (passP (a.rules.take k) bt).1 by unfold stepB; rw [hn]]; exact hM2, hG2⟩ (by (try dsimp only); omega) ⟨rfl, congrArg (fun z => some (Value.bool z)) (by rw [passP_succ hk', stepP_is, hn]; simp), trivial⟩ rfl rfl rfl
          ·
            cases h39
        ·
          obtain ⟨y0, y1, y2, y3, yK, yR⟩ := hM2.yes hbq
          refine K_region ?_
          refine KV (R_move rfl) rfl ?_
          refine KV (R_loadW ty2220 0 rfl rfl rfl rfl) rfl ?_
          refine KV (R_lookTK mt2230 keyB (hgq) hG2 z30 rfl rfl (MapAtK.at 4 rfl) (v := .tuple #[.agg #[.int .i64 y0, .slice y1 y2 y3], .bool true]) (by rw [yK]; rfl)) rfl ?_
          refine KV (R_move rfl) rfl ?_
          refine KV (R_extract rfl rfl) rfl ?_
          refine KV (R_extract rfl rfl) rfl ?_
          refine KA (A_alloc z30) rfl fun b10 => ?_
          refine K_storeW ty30 0 rfl rfl rfl rfl rfl rfl rfl ?_
          refine KV (R_assign rfl) rfl ?_
          refine K_nil ?_
          refine Q_then ?_
          refine K_seq ?_
          refine K_seq ?_
          refine K_region ?_
          refine KV (R_move rfl) rfl ?_
          refine KV (R_not rfl) rfl ?_
          refine K_nil ?_
          refine Q_then ?_
          refine K_ifB rfl (fun h39 => ?_) (fun h39 => ?_)
          ·
            cases h39
          ·
            refine K_skip ?_
            refine Q_then ?_
            refine K_region ?_
            refine KV (R_fieldAddr 1 fd30_1 rfl) rfl ?_
            refine KV (R_loadO ty28 3 rfl rfl rfl rfl (fun _ => rfl) rfl) rfl ?_
            refine KV (R_loadW ty30 0 rfl rfl rfl rfl) rfl ?_
            refine KA (A_buildSlice (vs := [.agg #[.int .i64 y0, .slice y1 y2 y3]]) sl28 ty30 z30 rfl rfl (by simp [Value.cells]) (by simp) rfl (by decide)) rfl fun b43 => ?_
            refine K_append1 2 ap28 rfl rfl rfl rfl rfl rfl ⟨by omega, by omega⟩ rfl fun a44 k44 hn44 => ?_
            refine KV (R_fieldAddr 1 fd30_1 rfl) rfl ?_
            refine K_store ty28 3 rfl rfl rfl rfl rfl rfl ?_
            refine K_nil ?_
            refine Q_block ?_
            refine Q_then ?_
            refine K_region ?_
            refine KV (R_add rfl rfl (by omega)) rfl ?_
            refine KV (R_move rfl) rfl ?_
            refine K_nil ?_
            refine KQ_sel [0, 2, 2, 2] rfl ?_
            refine Q_nextD (i + 1, .slice a44 (i + 1) k44, oc ++ [.int .i64 y0, .slice y1 y2 y3], ts ++ [u]) ⟨hi', argsB_snoc hts hi' hbq, hL.snoc yR rfl, _, _, rfl⟩ (by (try dsimp only); omega) ⟨rfl, trivial⟩ rfl rfl rfl
      ·
        have hi' : i = a.rules[k].args.length := by omega
        subst hi'
        rw [List.take_length] at hts
        refine K_exit ?_
        refine Q_then_exit ?_
        refine Q_then_exit ?_
        refine Q_block_exit ?_
        refine Q_then ?_
        refine K_seq ?_
        rcases hbt : (passP (a.rules.take k) bt).1 a.rules[k].to with _ | v
        ·
          have hnb := newB_is hts
          rw [hbt] at hnb
          refine K_region ?_
          refine KV (R_move rfl) rfl ?_
          refine KV (R_fieldAddr 2 fd2227_2 rfl) rfl ?_
          refine KV (R_loadO ty2220 2 rfl rfl rfl rfl (fun e => by cases e) rfl) rfl ?_
          refine KV (R_lookTK mt2230 keyB (hgt) hG2 z30 rfl rfl (MapAtK.at 3 rfl) (v := .tuple #[.agg #[.int .i64 0, .slice none 0 0], .bool false]) (by rw [BestM.no hM2 hbt]; rfl)) rfl ?_
          refine KV (R_move rfl) rfl ?_
          refine KV (R_extract rfl rfl) rfl ?_
          refine KV (R_extract rfl rfl) rfl ?_
          refine KA (A_alloc z30) rfl fun b12 => ?_
          refine K_storeW ty30 0 rfl rfl rfl rfl rfl rfl rfl ?_
          refine KV (R_assign rfl) rfl ?_
          refine K_nil ?_
          refine Q_then ?_
          refine K_seq ?_
          refine KC_front 1 rfl ?_
          try dsimp only [List.eraseIdx]
          refine KC_pubrow rfl fun V8 hv8 hrow => ?_
          skip
          have hT8 : RepT V8 (.node a.rules[k].sym ts) [.int .i64 a.rules[k].sym, .slice wa a.rules[k].args.length wc] := .of rs1 (by rw [show ts.length = a.rules[k].args.length from (argsB_some.1 hts).1]; exact hrow.sl) (hL.imp fun x cs h => h.mono hv8)
          have hss := args_sizes hI2 hts
          have htl := (argsB_some.1 hts).1
          have hsz : (Tr.node a.rules[k].sym ts).size = 1 + Tr.sizes ts := rfl
          refine K_region ?_
          refine KV (R_loadW ty30 1 rfl rfl rfl rfl) rfl ?_
          refine K_call c118 rfl rfl (psize_spec _ _ V8 _ (Nat.le_refl _) (by omega) hT8) ?_
          rintro _ V9 hv9 rfl
          have hT9 := hT8.mono hv9
          refine KV (R_cmp rfl rfl rfl) rfl ?_
          refine KV (R_move rfl) rfl ?_
          refine K_split ?_ ?_
          ·
            intro h57
            refine K_gyes rfl rfl ?_
            refine KV (R_move rfl) rfl ?_
            refine K_gyes rfl rfl ?_
            refine KV (R_not rfl) rfl ?_
            refine K_gyes rfl rfl ?_
            refine KV (R_move rfl) rfl ?_
            refine K_splitB ?_ ?_
            ·
              intro h60
              refine K_gno rfl rfl rfl rfl ?_
              refine K_gno rfl rfl rfl rfl ?_
              refine K_gno rfl rfl rfl rfl ?_
              refine K_gno rfl rfl rfl rfl ?_
              refine K_gyes rfl rfl ?_
              refine KV (R_pickT rfl rfl) rfl ?_
              refine KV (R_pickT rfl rfl) rfl ?_
              refine K_nil ?_
              refine Q_then ?_
              refine K_ifT rfl ?_
              refine K_seq ?_
              refine K_region ?_
              refine KV (R_move rfl) rfl ?_
              refine KV (R_fieldAddr 2 fd2227_2 rfl) rfl ?_
              refine KV (R_loadO ty2220 2 rfl rfl rfl rfl (fun e => by cases e) rfl) rfl ?_
              refine KV (R_loadW ty30 1 rfl rfl rfl rfl) rfl ?_
              refine K_mapSetK mt2230 keyB hgt hG2 3 rfl rfl rfl rfl ?_
              refine K_nil ?_
              refine Q_then ?_
              refine K_region ?_
              refine KV (R_assign rfl) rfl ?_
              refine K_nil ?_
              refine Q_block ?_
              refine Q_then ?_
              refine K_region ?_
              refine KV (R_add rfl rfl (by omega)) rfl ?_
              refine KV (R_move rfl) rfl ?_
              refine K_nil ?_
              refine KQ_sel [3] rfl ?_
              have hn : newB (passP (a.rules.take k) bt).1 a.rules[k] = some (.node a.rules[k].sym ts) := by rw [hnb, if_pos ⟨by omega, rfl⟩]
              refine Q_nextD (k + 1, V9, setI kv2 a.rules[k].to (.agg #[.int .i64 a.rules[k].sym, .slice wa a.rules[k].args.length wc])) ⟨hk', hV2.trans (hv8.trans hv9), by rw [passP_succ hk', stepP_is, show stepB (passP (a.rules.take k) bt).1 a.rules[k] = updB (passP (a.rules.take k) bt).1 a.rules[k].to (.node a.rules[k].sym ts) by unfold stepB; rw [hn]]; exact (hM2.mono (hv8.trans hv9)).set (cs := [.int .i64 a.rules[k].sym, .slice wa a.rules[k].args.length wc]) (hT8.mono hv9), hG2.set hgt _⟩ (by (try dsimp only); omega) ⟨rfl, congrArg (fun z => some (Value.bool z)) (by rw [passP_succ hk', stepP_is, hn]; simp), trivial⟩ rfl rfl rfl
            ·
              intro h60
              cases h60
          ·
            intro h57
            refine K_gno rfl rfl rfl rfl ?_
            refine K_gno rfl rfl rfl rfl ?_
            refine K_gno rfl rfl rfl rfl ?_
            refine K_gun rfl rfl rfl ?_
            refine K_gun rfl rfl rfl ?_
            refine K_gun rfl rfl rfl ?_
            refine K_gun rfl rfl rfl ?_
            refine K_gno rfl rfl rfl rfl ?_
            refine KV (R_pickF rfl rfl) rfl ?_
            refine K_nil ?_
            refine Q_then ?_
            refine K_ifF rfl ?_
            refine K_skip ?_
            refine Q_block ?_
            refine Q_then ?_
            refine K_region ?_
            refine KV (R_add rfl rfl (by omega)) rfl ?_
            refine KV (R_move rfl) rfl ?_
            refine K_nil ?_
            refine KQ_sel [3] rfl ?_
            have hn : newB (passP (a.rules.take k) bt).1 a.rules[k] = none := by rw [hnb, if_neg (fun h => by have := h.1; omega)]
            refine Q_nextD (k + 1, V9, kv2) ⟨hk', hV2.trans (hv8.trans hv9), by rw [passP_succ hk', stepP_is, show stepB (passP (a.rules.take k) bt).1 a.rules[k] = (passP (a.rules.take k) bt).1 by unfold stepB; rw [hn]]; exact (hM2.mono (hv8.trans hv9)), hG2⟩ (by (try dsimp only); omega) ⟨rfl, congrArg (fun z => some (Value.bool z)) (by rw [passP_succ hk', stepP_is, hn]; simp), trivial⟩ rfl rfl rfl
        ·
          have hnb := newB_is hts
          rw [hbt] at hnb
          obtain ⟨z0, z1, z2, z3, zK, zR⟩ := hM2.yes hbt
          have hvs := (hI2 _ _ hbt).2
          refine K_region ?_
          refine KV (R_move rfl) rfl ?_
          refine KV (R_fieldAddr 2 fd2227_2 rfl) rfl ?_
          refine KV (R_loadO ty2220 2 rfl rfl rfl rfl (fun e => by cases e) rfl) rfl ?_
          refine KV (R_lookTK mt2230 keyB (hgt) hG2 z30 rfl rfl (MapAtK.at 3 rfl) (v := .tuple #[.agg #[.int .i64 z0, .slice z1 z2 z3], .bool true]) (by rw [zK]; rfl)) rfl ?_
          refine KV (R_move rfl) rfl ?_
          refine KV (R_extract rfl rfl) rfl ?_
          refine KV (R_extract rfl rfl) rfl ?_
          refine KA (A_alloc z30) rfl fun b12 => ?_
          refine K_storeW ty30 0 rfl rfl rfl rfl rfl rfl rfl ?_
          refine KV (R_assign rfl) rfl ?_
          refine K_nil ?_
          refine Q_then ?_
          refine K_seq ?_
          refine KC_front 1 rfl ?_
          try dsimp only [List.eraseIdx]
          refine KC_pubrow rfl fun V8 hv8 hrow => ?_
          skip
          have hT8 : RepT V8 (.node a.rules[k].sym ts) [.int .i64 a.rules[k].sym, .slice wa a.rules[k].args.length wc] := .of rs1 (by rw [show ts.length = a.rules[k].args.length from (argsB_some.1 hts).1]; exact hrow.sl) (hL.imp fun x cs h => h.mono hv8)
          have hss := args_sizes hI2 hts
          have htl := (argsB_some.1 hts).1
          have hsz : (Tr.node a.rules[k].sym ts).size = 1 + Tr.sizes ts := rfl
          refine K_region ?_
          refine KV (R_loadW ty30 1 rfl rfl rfl rfl) rfl ?_
          refine K_call c118 rfl rfl (psize_spec _ _ V8 _ (Nat.le_refl _) (by omega) hT8) ?_
          rintro _ V9 hv9 rfl
          have hT9 := hT8.mono hv9
          refine KV (R_cmp rfl rfl rfl) rfl ?_
          refine KV (R_move rfl) rfl ?_
          refine K_split ?_ ?_
          ·
            intro h57
            refine K_gyes rfl rfl ?_
            refine KV (R_move rfl) rfl ?_
            refine K_gyes rfl rfl ?_
            refine KV (R_not rfl) rfl ?_
            refine K_gyes rfl rfl ?_
            refine KV (R_move rfl) rfl ?_
            refine K_splitB ?_ ?_
            ·
              intro h60
              cases h60
            ·
              intro h60
              refine K_gyes rfl rfl ?_
              refine KV (R_loadW ty30 1 rfl rfl rfl rfl) rfl ?_
              refine K_gyes rfl rfl ?_
              refine KV (R_loadW ty30 0 rfl rfl rfl rfl) rfl ?_
              refine K_gyes rfl rfl ?_
              refine K_call c2184 rfl rfl (rcmp_spec _ _ v V9 _ _ (Nat.le_refl _) (by omega) (by omega) hT9 ((zR.mono hv8).mono hv9)) ?_
              rintro _ V10 hv10 rfl
              refine K_gyes rfl rfl ?_
              refine KV (R_cmp rfl rfl rfl) rfl ?_
              refine K_gyes rfl rfl ?_
              refine KV (R_pickF rfl rfl) rfl ?_
              refine KV (R_pickT rfl rfl) rfl ?_
              refine K_nil ?_
              refine Q_then ?_
              refine K_if rfl (fun h66 => ?_) (fun h66 => ?_)
              ·
                refine K_seq ?_
                refine K_region ?_
                refine KV (R_move rfl) rfl ?_
                refine KV (R_fieldAddr 2 fd2227_2 rfl) rfl ?_
                refine KV (R_loadO ty2220 2 rfl rfl rfl rfl (fun e => by cases e) rfl) rfl ?_
                refine KV (R_loadW ty30 1 rfl rfl rfl rfl) rfl ?_
                refine K_mapSetK mt2230 keyB hgt hG2 3 rfl rfl rfl rfl ?_
                refine K_nil ?_
                refine Q_then ?_
                refine K_region ?_
                refine KV (R_assign rfl) rfl ?_
                refine K_nil ?_
                refine Q_block ?_
                refine Q_then ?_
                refine K_region ?_
                refine KV (R_add rfl rfl (by omega)) rfl ?_
                refine KV (R_move rfl) rfl ?_
                refine K_nil ?_
                refine KQ_sel [3] rfl ?_
                have hn : newB (passP (a.rules.take k) bt).1 a.rules[k] = some (.node a.rules[k].sym ts) := by rw [hnb, if_pos ⟨by omega, decide_eq_true h66⟩]
                refine Q_nextD (k + 1, V10, setI kv2 a.rules[k].to (.agg #[.int .i64 a.rules[k].sym, .slice wa a.rules[k].args.length wc])) ⟨hk', hV2.trans (hv8.trans (hv9.trans hv10)), by rw [passP_succ hk', stepP_is, show stepB (passP (a.rules.take k) bt).1 a.rules[k] = updB (passP (a.rules.take k) bt).1 a.rules[k].to (.node a.rules[k].sym ts) by unfold stepB; rw [hn]]; exact (hM2.mono (hv8.trans (hv9.trans hv10))).set (cs := [.int .i64 a.rules[k].sym, .slice wa a.rules[k].args.length wc]) (hT8.mono (hv9.trans hv10)), hG2.set hgt _⟩ (by (try dsimp only); omega) ⟨rfl, congrArg (fun z => some (Value.bool z)) (by rw [passP_succ hk', stepP_is, hn]; simp), trivial⟩ rfl rfl rfl
              ·
                refine K_skip ?_
                refine Q_block ?_
                refine Q_then ?_
                refine K_region ?_
                refine KV (R_add rfl rfl (by omega)) rfl ?_
                refine KV (R_move rfl) rfl ?_
                refine K_nil ?_
                refine KQ_sel [3] rfl ?_
                have hn : newB (passP (a.rules.take k) bt).1 a.rules[k] = none := by rw [hnb, if_neg (fun h => h66 (of_decide_eq_true h.2))]
                refine Q_nextD (k + 1, V10, kv2) ⟨hk', hV2.trans (hv8.trans (hv9.trans hv10)), by rw [passP_succ hk', stepP_is, show stepB (passP (a.rules.take k) bt).1 a.rules[k] = (passP (a.rules.take k) bt).1 by unfold stepB; rw [hn]]; exact (hM2.mono (hv8.trans (hv9.trans hv10))), hG2⟩ (by (try dsimp only); omega) ⟨rfl, congrArg (fun z => some (Value.bool z)) (by rw [passP_succ hk', stepP_is, hn]; simp), trivial⟩ rfl rfl rfl
          ·
            intro h57
            refine K_gno rfl rfl rfl rfl ?_
            refine K_gno rfl rfl rfl rfl ?_
            refine K_gno rfl rfl rfl rfl ?_
            refine K_gun rfl rfl rfl ?_
            refine K_gun rfl rfl rfl ?_
            refine K_gun rfl rfl rfl ?_
            refine K_gun rfl rfl rfl ?_
            refine K_gno rfl rfl rfl rfl ?_
            refine KV (R_pickF rfl rfl) rfl ?_
            refine K_nil ?_
            refine Q_then ?_
            refine K_ifF rfl ?_
            refine K_skip ?_
            refine Q_block ?_
            refine Q_then ?_
            refine K_region ?_
            refine KV (R_add rfl rfl (by omega)) rfl ?_
            refine KV (R_move rfl) rfl ?_
            refine K_nil ?_
            refine KQ_sel [3] rfl ?_
            have hn : newB (passP (a.rules.take k) bt).1 a.rules[k] = none := by rw [hnb, if_neg (fun h => by have := h.1; omega)]
            refine Q_nextD (k + 1, V9, kv2) ⟨hk', hV2.trans (hv8.trans hv9), by rw [passP_succ hk', stepP_is, show stepB (passP (a.rules.take k) bt).1 a.rules[k] = (passP (a.rules.take k) bt).1 by unfold stepB; rw [hn]]; exact (hM2.mono (hv8.trans hv9)), hG2⟩ (by (try dsimp only); omega) ⟨rfl, congrArg (fun z => some (Value.bool z)) (by rw [passP_succ hk', stepP_is, hn]; simp), trivial⟩ rfl rfl rfl
    ·
      have hk' : k = a.rules.length := by omega
      subst hk'
      rw [List.take_length] at hM2 ⊢
      refine K_exit ?_
      refine Q_then_exit ?_
      refine Q_then_exit ?_
      refine Q_block_exit ?_
      refine Q_scope ?_
      refine Q_block ?_
      have hI2 : InvB a.rules (passP a.rules bt).1 := by rw [passP_fst]; exact hI.steps fun _ h => h
      have hch2 : ∃ n, (passP a.rules bt).1 = chainB a.rules n := by
        obtain ⟨n, hn⟩ := hch
        exact ⟨n + 1, by rw [passP_fst, hn]; rfl⟩
      have hcl2 : (passP a.rules bt).2 = false → Best a.rules (passP a.rules bt).1 := fun hf => by
        have hB := Best.of hch hf
        rw [passP_fst, hB.fx]; exact hB
      refine Q_nextD ((passP a.rules bt).2, V2, kv2, (passP a.rules bt).1) ⟨hV.trans hV2, hM2, hI2, hch2, hcl2, hG2⟩ (by have hmu := mu_pass hok hI _ (Nat.le_refl _); rw [List.take_length] at hmu; subst hmr; dsimp only; cases hfl : (passP a.rules bt).2 <;> simp only [hfl, if_true, if_false, Bool.false_eq_true] at hmu ⊢ <;> omega) ⟨rfl, trivial⟩ rfl rfl rfl
  ·
    refine K_exit ?_
    refine Q_then_exit ?_
    refine Q_then_exit ?_
    refine Q_block_exit ?_
    refine Q_then ?_
    refine K_seq ?_
    refine K_region ?_
    refine KV (R_move rfl) rfl ?_
    refine KV (R_assign rfl) rfl ?_
    refine K_nil ?_
    refine Q_then ?_
    refine K_ret ?_
    refine KQ_pubF fun U hU hb14 => ?_
    refine results_sel [] rfl (rs := [.tmp 2]) (vs := [_]) rfl ⟨rfl, trivial⟩ ?_
    exact ⟨b14, kvs, bt, rfl, hb14, hM.mono hU, hG, hcl hmr⟩
end Go.Proofs.X

namespace Go.Proofs.X
open Go Pal Go.Proofs
attribute [local irreducible] Pal.KO Pal.KC Pal.KQ Pal.KD
theorem ty2221 : Ty Tryz.prog T2221 false 1 := .of (by kernel_rfl)
theorem fd2220_0 : fldOk Tryz.prog T2220 0 0 = true := by kernel_rfl
theorem fd2220_1 : fldOk Tryz.prog T2220 1 1 = true := by kernel_rfl
theorem c2238 : callable Tryz.prog F2238 = true := by kernel_rfl
set_option maxHeartbeats 1000000 in
theorem leastB_spec (gf : Nat) (cap : List Value) (F : Int → Bool) (hcal : callable Tryz.prog gf = true) (H : View) (mb : Nat) (kvs : KVs) (bt : BT) (hm : H mb = some (mapObK keB kvs)) (hM : BestM H kvs bt) (hG : GoodK GB kvs) (hb : ∀ q t, bt q = some t → t.size ≤ 4096 ∧ t.deep ≤ 256)
    (hf : ∀ q V, VLe H V → q ∈ kvs.map (·.1) → Sat Tryz.prog gf ([] ++ [keB q] ++ cap).toArray V (fun r _ => r = .bool (F q))) :
    Sat Tryz.prog F2234 #[mp mb, .func (.func gf) #[] cap.toArray] H (fun r H' => ∃ ds o, r = .tuple #[.agg ds.toArray, .bool (Option.isSome o)] ∧ RepT H' (o.getD (.node 0 [])) ds ∧ LeastOf bt (fun p => F p = true) o) := by
  refine enterO (n := 41) (args := [mp mb, .func (.func gf) #[] cap.toArray]) Tryz.func120 rfl rfl rfl fun w0 => ?_
  refine K_seq ?_
  refine K_region ?_
  refine KA (A_alloc z30) rfl fun b4 => ?_
  refine KV (R_assign rfl) rfl ?_
  refine K_nil ?_
  refine Q_then ?_
  refine K_seq ?_
  refine K_region ?_
  refine KA (A_alloc z30) rfl fun b6 => ?_
  refine K_nil ?_
  refine Q_then ?_
  refine K_seq ?_
  refine K_region ?_
  refine KV (R_assign rfl) rfl ?_
  refine K_nil ?_
  refine Q_then ?_
  refine K_seq ?_
  refine K_seq ?_
  refine K_region ?_
  refine KV (R_move rfl) rfl ?_
  refine K_rangeK mt2230 rfl (.inl hm) rfl fun b11 => ?_
  refine K_nil ?_
  refine Q_then ?_
  refine K_block ?_
  refine K_loopD (G := List Nat × View × Option Tr × Value × Value) [7, 8, 9, 12, 13, 14, 15, 16, 17, 18, 19, 20, 21, 22, 23, 24, 25, 26, 27, 28, 29, 30] (fun g => [(7, .bool (Option.isSome g.2.2.1))]) (fun hl g => ((hl.set 0 (blk b11 (itO mb kvs.length g.1))).set 1 (blk b6 (.cells #[g.2.2.2.1, g.2.2.2.2] T30 (0, 0))))) (fun g => g.2.1) (fun g => (g.1.Nodup) ∧ (∀ i ∈ g.1, i < kvs.length) ∧ (VLe H g.2.1) ∧ (LeastOf bt (fun p => p ∈ keysAt kvs g.1 ∧ F p = true) g.2.2.1) ∧ (RepT g.2.1 (g.2.2.1.getD (.node 0 [])) [g.2.2.2.1, g.2.2.2.2])) (fun g => kvs.length - g.1.length) ([], H, none, .int .i64 0, nilS) ⟨List.nodup_nil, fun i hi => (by cases hi), VLe.refl _, fun q hq => (by cases hq.1), repT_leaf _ 0 (by simp [i64ok])⟩ ⟨rfl, trivial⟩ (by simp only [args0, Nat.reduceAdd, del, memN, beqN, Nat.reduceBEq, cond_true, cond_false]; rfl) rfl rfl ?_
  rintro ⟨seen, V, o, z, w⟩ ⟨hsn, hslt, hV, hO, hz⟩
  dsimp only at hsn hslt hV hO hz
  dsimp only [List.set, List.cons_append, List.nil_append]
  obtain ⟨z0, z1, z2, z3, hze⟩ := hz.shape
  cases hze
  refine K_seq ?_
  refine K_region ?_
  refine K_nextK 0 rfl rfl (.inl (hV _ _ hm)) rfl (fun hall => ?_) (fun i q u hki hni => ?_)
  ·
    refine KV (R_extract rfl rfl) rfl ?_
    refine K_nil ?_
    refine Q_then ?_
    refine K_seq ?_
    refine K_ifF rfl ?_
    refine K_exit ?_
    refine Q_then_exit ?_
    refine Q_then_exit ?_
    refine Q_block_exit ?_
    refine Q_then ?_
    refine K_seq ?_
    refine K_seq ?_
    rcases o with _ | w0t
    ·
      have hO2 := hO.all (fun p t hp => (keysAt_all hsn hslt hall).mem_iff.2 (hM.mem hp))
      refine K_region ?_
      refine KV (R_move rfl) rfl ?_
      refine KV (R_not rfl) rfl ?_
      refine KV (R_move rfl) rfl ?_
      refine K_splitB ?_ ?_
      ·
        intro h33
        refine K_gno rfl rfl rfl rfl ?_
        refine K_gno rfl rfl rfl rfl ?_
        refine K_gno rfl rfl rfl rfl ?_
        refine KV (R_pickT rfl rfl) rfl ?_
        refine K_nil ?_
        refine Q_then ?_
        refine K_ifT rfl ?_
        refine K_seq ?_
        refine K_region ?_
        refine KV (R_build z30 pl30 rfl rfl) rfl ?_
        refine K_storeW ty30 2 rfl rfl rfl rfl rfl rfl rfl ?_
        refine KV (R_assign rfl) rfl ?_
        refine K_nil ?_
        refine Q_then ?_
        refine K_ret ?_
        refine Q_then_ret ?_
        refine results_gen (rs := [.cell 4 39, .tmp 5]) (vs := [_, _]) rfl ⟨⟨_, _, _, _, _, _, 2, rfl, rfl, ty30, (fun e => by cases e), rfl, rfl⟩, ⟨rfl, trivial⟩⟩ ?_
        exact ⟨_, none, rfl, repT_leaf _ 0 (by simp [i64ok]), hO2⟩
      ·
        intro h33
        cases h33
    ·
      have hbw := (hO.1).elim fun p hp => hb p _ hp.2
      have hO2 := hO.all (fun p t hp => (keysAt_all hsn hslt hall).mem_iff.2 (hM.mem hp))
      refine K_region ?_
      refine KV (R_move rfl) rfl ?_
      refine KV (R_not rfl) rfl ?_
      refine KV (R_move rfl) rfl ?_
      refine K_splitB ?_ ?_
      ·
        intro h33
        cases h33
      ·
        intro h33
        refine K_gyes rfl rfl ?_
        refine KV (R_loadW ty30 1 rfl rfl rfl rfl) rfl ?_
        refine K_gyes rfl rfl ?_
        refine K_call c2185 rfl rfl (reach36_spec w0t V _ (by omega) hz) ?_
        rintro _ V2 hv2 rfl
        refine K_gyes rfl rfl ?_
        refine KV (R_notP rfl) rfl ?_
        refine KV (R_pickF rfl rfl) rfl ?_
        refine K_nil ?_
        refine Q_then ?_
        refine K_if rfl (fun h37 => ?_) (fun h37 => ?_)
        ·
          exact absurd ⟨by omega, by omega⟩ h37
        ·
          refine K_skip ?_
          refine Q_then ?_
          refine K_seq ?_
          refine K_region ?_
          refine KV (R_loadW ty30 1 rfl rfl rfl rfl) rfl ?_
          refine K_call c2186 rfl rfl (tclone_spec _ w0t V2 _ (Nat.le_refl _) (by omega) (hz.mono hv2)) ?_
          rintro _ V3 hv3 ⟨ds, rfl, hds⟩
          obtain ⟨x0, x1, x2, x3, rfl⟩ := hds.shape
          refine K_storeW ty30 2 rfl rfl rfl rfl rfl rfl rfl ?_
          refine KV (R_assign rfl) rfl ?_
          refine K_nil ?_
          refine Q_then ?_
          refine K_ret ?_
          refine results_gen (rs := [.cell 4 39, .tmp 5]) (vs := [_, _]) rfl ⟨⟨_, _, _, _, _, _, 2, rfl, rfl, ty30, (fun e => by cases e), rfl, rfl⟩, ⟨rfl, trivial⟩⟩ ?_
          exact ⟨[.int .i64 x0, .slice x1 x2 x3], some w0t, rfl, hds, hO2⟩
  ·
    obtain ⟨hnd2, hlt2, hle2⟩ := seen_snoc hsn hslt hni (List.getElem?_eq_some_iff.1 hki).1
    obtain ⟨u0, y0, y1, y2, y3, hbq, rfl, yR⟩ := (hM.mono hV).key hki
    have hks := keysAt_snoc (seen := seen) hki
    have hbu := hb _ _ hbq
    have hqm : q ∈ kvs.map (·.1) := List.mem_map.2 ⟨_, List.mem_of_getElem? hki, rfl⟩
    refine KV (R_extract rfl rfl) rfl ?_
    refine K_nil ?_
    refine Q_then ?_
    refine K_seq ?_
    refine K_ifT rfl ?_
    refine K_skip ?_
    refine Q_then ?_
    refine K_block ?_
    refine K_seq ?_
    refine K_region ?_
    refine KV (R_entryK 0 rfl rfl (.inl (hV _ _ hm)) hki) rfl ?_
    refine KV (R_extract rfl rfl) rfl ?_
    refine KV (R_extract rfl rfl) rfl ?_
    refine KA (A_alloc z2220) rfl fun b8 => ?_
    refine KA (A_alloc z30) rfl fun b9 => ?_
    refine K_storeW ty2220 1 rfl rfl rfl rfl rfl rfl rfl ?_
    refine K_storeW ty30 0 rfl rfl rfl rfl rfl rfl rfl ?_
    refine K_nil ?_
    refine Q_then ?_
    refine K_seq ?_
    rcases o with _ | w0t
    ·
      refine K_region ?_
      refine KV (R_move rfl) rfl ?_
      refine KV (R_loadW ty2220 1 rfl rfl rfl rfl) rfl ?_
      refine K_callV hcal rfl rfl rfl (hf q V hV hqm) ?_
      rintro _ V2 hv2 rfl
      refine KV (R_move rfl) rfl ?_
      refine K_splitB ?_ ?_
      ·
        intro h20
        refine K_gyes rfl rfl ?_
        refine KV (R_move rfl) rfl ?_
        refine K_gyes rfl rfl ?_
        refine KV (R_not rfl) rfl ?_
        refine K_gyes rfl rfl ?_
        refine KV (R_move rfl) rfl ?_
        refine K_splitB ?_ ?_
        ·
          intro h23
          refine K_gno rfl rfl rfl rfl ?_
          refine K_gno rfl rfl rfl rfl ?_
          refine K_gno rfl rfl rfl rfl ?_
          refine K_gno rfl rfl rfl rfl ?_
          refine K_gyes rfl rfl ?_
          refine KV (R_pickT rfl rfl) rfl ?_
          refine KV (R_pickT rfl rfl) rfl ?_
          refine K_nil ?_
          refine Q_then ?_
          refine K_ifT rfl ?_
          refine K_region ?_
          refine KV (R_loadW ty30 0 rfl rfl rfl rfl) rfl ?_
          refine K_storeW ty30 3 rfl rfl rfl rfl rfl rfl rfl ?_
          refine KV (R_assign rfl) rfl ?_
          refine K_nil ?_
          refine Q_block ?_
          refine KQ_sel [2, 2, 2] rfl ?_
          refine Q_nextD (seen ++ [i], V2, some u0, .int .i64 y0, .slice y1 y2 y3) ⟨hnd2, hlt2, hV.trans hv2, by rw [hks]; exact hO.first hbq (keys_yes h20), yR.mono hv2⟩ (by (try dsimp only); rw [List.length_append]; simp only [List.length_cons, List.length_nil]; omega) ⟨rfl, trivial⟩ rfl rfl rfl
        ·
          intro h23
          cases h23
      ·
        intro h20
        refine K_gno rfl rfl rfl rfl ?_
        refine K_gno rfl rfl rfl rfl ?_
        refine K_gno rfl rfl rfl rfl ?_
        refine K_gun rfl rfl rfl ?_
        refine K_gun rfl rfl rfl ?_
        refine K_gun rfl rfl rfl ?_
        refine K_gun rfl rfl rfl ?_
        refine K_gno rfl rfl rfl rfl ?_
        refine KV (R_pickF rfl rfl) rfl ?_
        refine K_nil ?_
        refine Q_then ?_
        refine K_ifF rfl ?_
        refine K_skip ?_
        refine Q_block ?_
        refine KQ_sel [2, 2, 2] rfl ?_
        refine Q_nextD (seen ++ [i], V2, none, .int .i64 z0, .slice z1 z2 z3) ⟨hnd2, hlt2, hV.trans hv2, by rw [hks]; exact hO.skip _ (keys_no h20) (fun p hp => ⟨List.mem_append_left _ hp.1, hp.2⟩), hz.mono hv2⟩ (by (try dsimp only); rw [List.length_append]; simp only [List.length_cons, List.length_nil]; omega) ⟨rfl, trivial⟩ rfl rfl rfl
    ·
      have hbw := (hO.1).elim fun p hp => hb p _ hp.2
      refine K_region ?_
      refine KV (R_move rfl) rfl ?_
      refine KV (R_loadW ty2220 1 rfl rfl rfl rfl) rfl ?_
      refine K_callV hcal rfl rfl rfl (hf q V hV hqm) ?_
      rintro _ V2 hv2 rfl
      refine KV (R_move rfl) rfl ?_
      refine K_splitB ?_ ?_
      ·
        intro h20
        refine K_gyes rfl rfl ?_
        refine KV (R_move rfl) rfl ?_
        refine K_gyes rfl rfl ?_
        refine KV (R_not rfl) rfl ?_
        refine K_gyes rfl rfl ?_
        refine KV (R_move rfl) rfl ?_
        refine K_splitB ?_ ?_
        ·
          intro h23
          cases h23
        ·
          intro h23
          refine K_gyes rfl rfl ?_
          refine KV (R_loadW ty30 0 rfl rfl rfl rfl) rfl ?_
          refine K_gyes rfl rfl ?_
          refine KV (R_loadW ty30 3 rfl rfl rfl rfl) rfl ?_
          refine K_gyes rfl rfl ?_
          refine K_call c2184 rfl rfl (rcmp_spec _ u0 w0t V2 _ _ (Nat.le_refl _) (by omega) (by omega) (yR.mono hv2) (hz.mono hv2)) ?_
          rintro _ V3 hv3 rfl
          refine K_gyes rfl rfl ?_
          refine KV (R_cmp rfl rfl rfl) rfl ?_
          refine K_gyes rfl rfl ?_
          refine KV (R_pickF rfl rfl) rfl ?_
          refine KV (R_pickT rfl rfl) rfl ?_
          refine K_nil ?_
          refine Q_then ?_
          refine K_if rfl (fun h29 => ?_) (fun h29 => ?_)
          ·
            refine K_region ?_
            refine KV (R_loadW ty30 0 rfl rfl rfl rfl) rfl ?_
            refine K_storeW ty30 3 rfl rfl rfl rfl rfl rfl rfl ?_
            refine KV (R_assign rfl) rfl ?_
            refine K_nil ?_
            refine Q_block ?_
            refine KQ_sel [2, 2, 2] rfl ?_
            refine Q_nextD (seen ++ [i], V3, some u0, .int .i64 y0, .slice y1 y2 y3) ⟨hnd2, hlt2, hV.trans (hv2.trans hv3), by rw [hks]; exact hO.less hbq (keys_yes h20) h29, yR.mono (hv2.trans hv3)⟩ (by (try dsimp only); rw [List.length_append]; simp only [List.length_cons, List.length_nil]; omega) ⟨rfl, trivial⟩ rfl rfl rfl
          ·
            refine K_skip ?_
            refine Q_block ?_
            refine KQ_sel [2, 2, 2] rfl ?_
            refine Q_nextD (seen ++ [i], V3, some w0t, .int .i64 z0, .slice z1 z2 z3) ⟨hnd2, hlt2, hV.trans (hv2.trans hv3), by rw [hks]; exact hO.stay hbq (keys_yes h20) h29, hz.mono (hv2.trans hv3)⟩ (by (try dsimp only); rw [List.length_append]; simp only [List.length_cons, List.length_nil]; omega) ⟨rfl, trivial⟩ rfl rfl rfl
      ·
        intro h20
        refine K_gno rfl rfl rfl rfl ?_
        refine K_gno rfl rfl rfl rfl ?_
        refine K_gno rfl rfl rfl rfl ?_
        refine K_gun rfl rfl rfl ?_
        refine K_gun rfl rfl rfl ?_
        refine K_gun rfl rfl rfl ?_
        refine K_gun rfl rfl rfl ?_
        refine K_gno rfl rfl rfl rfl ?_
        refine KV (R_pickF rfl rfl) rfl ?_
        refine K_nil ?_
        refine Q_then ?_
        refine K_ifF rfl ?_
        refine K_skip ?_
        refine Q_block ?_
        refine KQ_sel [2, 2, 2] rfl ?_
        refine Q_nextD (seen ++ [i], V2, some w0t, .int .i64 z0, .slice z1 z2 z3) ⟨hnd2, hlt2, hV.trans hv2, by rw [hks]; exact hO.skip _ (keys_no h20) (fun p hp => ⟨List.mem_append_left _ hp.1, hp.2⟩), hz.mono hv2⟩ (by (try dsimp only); rw [List.length_append]; simp only [List.length_cons, List.length_nil]; omega) ⟨rfl, trivial⟩ rfl rfl rfl

theorem stidx_spec (f : Nat) (cap : List Value) (p : Rl → Bool) (rs : List Rl) (a : Option Addr) (cp : Nat) (cells : List Value) (H : View) (hS : SlAt H (.slice a rs.length cp) rs.length cells) (hL : RepL (RepS H) 4 rs cells) (hl : rs.length ≤ 1099511627776) (hcal : callable Tryz.prog f = true) (hp : ∀ r cs V, r ∈ rs → VLe H V → RepS V r cs → Sat Tryz.prog f ([] ++ [Value.agg cs.toArray] ++ cap).toArray V (fun r2 _ => r2 = .bool (p r))) :
    Sat Tryz.prog F2238 #[.slice a rs.length cp, .func (.func f) #[] cap.toArray] H (fun r _ => ∃ i : Int, r = .int .i64 i ∧ (0 ≤ i ↔ ∃ x ∈ rs, p x = true)) := by
  refine enterO (n := 19) (args := [.slice a rs.length cp, .func (.func f) #[] cap.toArray]) Tryz.func142 rfl rfl rfl fun w0 => ?_
  refine K_seq ?_
  refine K_region ?_
  refine KV (R_assign rfl) rfl ?_
  refine K_nil ?_
  refine Q_then ?_
  refine K_seq ?_
  refine K_seq ?_
  refine K_region ?_
  refine KV (R_move rfl) rfl ?_
  refine KV (R_len sl2222 rfl) rfl ?_
  refine KV (R_move rfl) rfl ?_
  refine K_nil ?_
  refine Q_then ?_
  refine K_block ?_
  refine K_loopD (G := Nat × View) [4, 5, 8, 9, 10, 11, 12, 13, 14, 15, 16, 17, 18] (fun g => [(8, .int .i64 (g.1 : Int))]) (fun hl g => hl) (fun g => g.2) (fun g => (g.1 ≤ rs.length) ∧ (VLe H g.2) ∧ (∀ j (h : j < rs.length), j < g.1 → p rs[j] = false)) (fun g => rs.length - g.1) (0, H) ⟨Nat.zero_le _, VLe.refl _, fun j _ h => absurd h (Nat.not_lt_zero _)⟩ ⟨rfl, trivial⟩ (by simp only [args0, Nat.reduceAdd, del, memN, beqN, Nat.reduceBEq, cond_true, cond_false]; rfl) rfl rfl ?_
  rintro ⟨k, V⟩ ⟨hk0, hV, hno⟩
  dsimp only at hk0 hV hno
  dsimp only [List.set, List.cons_append, List.nil_append]
  refine K_seq ?_
  refine K_region ?_
  refine KV (R_cmp rfl rfl rfl) rfl ?_
  refine K_nil ?_
  refine Q_then ?_
  refine K_seq ?_
  refine K_if rfl (fun h9 => ?_) (fun h9 => ?_)
  ·
    have hk' : k < rs.length := by omega
    obtain ⟨xb, xo, xcs, xe, xcl, xR, xA⟩ := (SlAt.mono hS hV).elem (hL.imp fun x cs h => h.mono hV) (i := k) hk' rfl
    cases xe
    obtain ⟨ra, rc, rfl⟩ := xR.shape
    refine K_skip ?_
    refine Q_then ?_
    refine K_seq ?_
    refine K_block ?_
    refine K_seq ?_
    refine K_region ?_
    refine KV (R_move rfl) rfl ?_
    refine KV (R_assign rfl) rfl ?_
    refine K_nil ?_
    refine Q_then ?_
    refine K_seq ?_
    refine K_region ?_
    refine KV (R_move rfl) rfl ?_
    refine KV (R_move rfl) rfl ?_
    refine KV (R_move rfl) rfl ?_
    refine KV (R_indexN sl2222 ty2227 rfl rfl (by omega)) rfl ?_
    refine KV (R_loadH ty2227 rfl (xA) rfl (fun e => by cases e) rfl) rfl ?_
    refine K_callV hcal rfl rfl rfl (hp rs[k] _ V (List.getElem_mem hk') hV xR) ?_
    rintro _ V2 hv2 rfl
    refine K_nil ?_
    refine Q_then ?_
    refine K_ifB rfl (fun h16 => ?_) (fun h16 => ?_)
    ·
      refine K_seq ?_
      refine K_region ?_
      refine KV (R_move rfl) rfl ?_
      refine KV (R_assign rfl) rfl ?_
      refine K_nil ?_
      refine Q_then ?_
      refine K_ret ?_
      refine Q_block_ret ?_
      refine Q_then_ret ?_
      refine Q_then_ret ?_
      refine Q_block_ret ?_
      refine Q_then_ret ?_
      refine results_gen (rs := [.tmp 4]) (vs := [_]) rfl ⟨rfl, trivial⟩ ?_
      exact ⟨k, rfl, ⟨fun _ => ⟨_, List.getElem_mem hk', h16⟩, fun _ => by omega⟩⟩
    ·
      have hno2 : ∀ j (h : j < rs.length), j < k + 1 → p rs[j] = false := by
        intro j h hj
        by_cases e : j = k
        · subst e; exact h16
        · exact hno j h (by omega)
      refine K_skip ?_
      refine Q_block ?_
      refine Q_then ?_
      refine K_region ?_
      refine KV (R_add rfl rfl (by omega)) rfl ?_
      refine KV (R_move rfl) rfl ?_
      refine K_nil ?_
      refine Q_nextD (k + 1, V2) ⟨hk', hV.trans hv2, hno2⟩ (by (try dsimp only); omega) ⟨rfl, trivial⟩ rfl rfl rfl
  ·
    have hk' : k = rs.length := by omega
    refine K_exit ?_
    refine Q_then_exit ?_
    refine Q_then_exit ?_
    refine Q_block_exit ?_
    refine Q_then ?_
    refine K_seq ?_
    refine K_region ?_
    refine KV (R_assign rfl) rfl ?_
    refine K_nil ?_
    refine Q_then ?_
    refine K_ret ?_
    refine results_gen (rs := [.tmp 4]) (vs := [_]) rfl ⟨rfl, trivial⟩ ?_
    refine ⟨-1, rfl, ⟨fun h => by omega, ?_⟩⟩
    rintro ⟨x, hx, hpx⟩
    obtain ⟨j, hj, rfl⟩ := List.getElem_of_mem hx
    rw [hno j hj (by omega)] at hpx; cases hpx

theorem stcon_spec (f : Nat) (cap : List Value) (p : Rl → Bool) (rs : List Rl) (a : Option Addr) (cp : Nat) (cells : List Value) (H : View) (hS : SlAt H (.slice a rs.length cp) rs.length cells) (hL : RepL (RepS H) 4 rs cells) (hl : rs.length ≤ 1099511627776) (hcal : callable Tryz.prog f = true) (hp : ∀ r cs V, r ∈ rs → VLe H V → RepS V r cs → Sat Tryz.prog f ([] ++ [Value.agg cs.toArray] ++ cap).toArray V (fun r2 _ => r2 = .bool (p r))) :
    Sat Tryz.prog F2232 #[.slice a rs.length cp, .func (.func f) #[] cap.toArray] H (fun r _ => r = .bool (rs.any p)) := by
  refine enterO (n := 9) (args := [.slice a rs.length cp, .func (.func f) #[] cap.toArray]) Tryz.func118 rfl rfl rfl fun w0 => ?_
  refine K_seq ?_
  refine K_region ?_
  refine KV (R_assign rfl) rfl ?_
  refine K_nil ?_
  refine Q_then ?_
  refine K_seq ?_
  refine K_region ?_
  refine KV (R_move rfl) rfl ?_
  refine KV (R_move rfl) rfl ?_
  refine K_call c2238 rfl rfl (stidx_spec f cap p rs a cp cells H hS hL hl hcal hp) ?_
  rintro _ V1 hv1 ⟨i, rfl, hi⟩
  refine KV (R_cmp rfl rfl rfl) rfl ?_
  refine KV (R_assign rfl) rfl ?_
  refine K_nil ?_
  refine Q_then ?_
  refine K_ret ?_
  refine results_gen (rs := [.tmp 4]) (vs := [_]) rfl ⟨rfl, trivial⟩ ?_
  refine congrArg Value.bool ?_
  by_cases h : 0 ≤ i
  · rw [decide_eq_true h]; exact (List.any_eq_true.2 (hi.1 h)).symm
  · rw [decide_eq_false h]; exact (Bool.eq_false_iff.2 fun h2 => h (hi.2 (List.any_eq_true.1 h2))).symm

theorem differ1_spec (gf : Nat) (cap : List Value) (F : Int → Bool) (hcal : callable Tryz.prog gf = true) (b : Nat) (r : Rl) (cs : List Value) (H : View) (hA : At H b 0 [.func (.func gf) #[] cap.toArray]) (hr : RepS H r cs) (hf : Sat Tryz.prog gf ([] ++ [keB r.to] ++ cap).toArray H (fun v _ => v = .bool (F r.to))) :
    Sat Tryz.prog F2233 ([] ++ [Value.agg cs.toArray] ++ [ptr b]).toArray H (fun v _ => v = .bool (F r.to)) := by
  obtain ⟨ra, rc, rfl⟩ := hr.shape
  refine enterO (n := 8) (args := [.agg #[.int .i64 r.sym, .slice ra r.args.length rc, .int .i64 (r.to / 16), .int .i64 (r.to % 16)], ptr b]) Tryz.func119 rfl rfl rfl fun w0 => ?_
  refine K_seq ?_
  refine K_region ?_
  refine KA (A_box rfl) rfl fun b2 => ?_
  refine KV (R_assign rfl) rfl ?_
  refine K_nil ?_
  refine Q_then ?_
  refine K_seq ?_
  refine K_region ?_
  refine KV (R_loadH ty2221 rfl (hA) rfl (fun _ => rfl) rfl) rfl ?_
  refine KV (R_fieldAddr 2 fd2227_2 rfl) rfl ?_
  refine KV (R_loadO ty2220 0 rfl rfl rfl rfl (fun e => by cases e) rfl) rfl ?_
  refine K_callV hcal rfl rfl rfl hf ?_
  rintro _ V1 hv1 rfl
  refine KV (R_assign rfl) rfl ?_
  refine K_nil ?_
  refine Q_then ?_
  refine K_ret ?_
  refine results_gen (rs := [.tmp 3]) (vs := [_]) rfl ⟨rfl, trivial⟩ ?_
  rfl

theorem equal1_spec (d e : Dt) (q : Int) (b1 b2 : Nat) (v1 v2 v3 w1 w2 w3 : Value) (H : View) (hd : RepDt H d v1 v2 v3) (he : RepDt H e w1 w2 w3) (hA : At H b1 0 [v1, v2, v3]) (hB : At H b2 0 [w1, w2, w3]) (h1 : 0 ≤ q / 16 ∧ q / 16 < (d.acc.length : Int)) (h2 : 0 ≤ q % 16 ∧ q % 16 < (e.acc.length : Int)) :
    Sat Tryz.prog F2230 ([] ++ [keB q] ++ [ptr b1, ptr b2]).toArray H (fun v _ => v = .bool (d.acc.getD (q / 16).toNat false != e.acc.getD (q % 16).toNat false)) := by
  obtain ⟨ua1, uc1x, rfl⟩ := hd.r.shape
  obtain ⟨ua2, uc2x, rfl⟩ := hd.a.shape
  obtain ⟨ua3, uc3x, rfl⟩ := hd.t.shape
  obtain ⟨wa1, wc1x, rfl⟩ := he.r.shape
  obtain ⟨wa2, wc2x, rfl⟩ := he.a.shape
  obtain ⟨wa3, wc3x, rfl⟩ := he.t.shape
  obtain ⟨tb, to_, hte, hta⟩ := hd.a.get (i := (q / 16).toNat) (by omega)
  cases hte
  obtain ⟨ub, uo, hue, hua⟩ := he.a.get (i := (q % 16).toNat) (by omega)
  cases hue
  have hA1 := hA.one (j := 1) rfl
  have hB1 := hB.one (j := 1) rfl
  have hg1 : d.acc.getD (q / 16).toNat false = d.acc[(q / 16).toNat]'(by omega) := by simp [List.getD, show (q / 16).toNat < d.acc.length by omega]
  have hg2 : e.acc.getD (q % 16).toNat false = e.acc[(q % 16).toNat]'(by omega) := by simp [List.getD, show (q % 16).toNat < e.acc.length by omega]
  refine enterO (n := 18) (args := [.agg #[.int .i64 (q / 16), .int .i64 (q % 16)], ptr b1, ptr b2]) Tryz.func84 rfl rfl rfl fun w0 => ?_
  refine K_seq ?_
  refine K_region ?_
  refine KA (A_box rfl) rfl fun b3 => ?_
  refine KV (R_assign rfl) rfl ?_
  refine K_nil ?_
  refine Q_then ?_
  refine K_seq ?_
  refine K_regionD (fin := false) (R := [0, 1, 2, 3, 4, 5, 6, 7, 8, 9, 10, 11, 12, 13]) (by kernel_rfl) mixed (.cons_cons _ (List.nil_sublist _)) ?_
  refine D_val rfl rfl rfl (R_fieldAddr 1 fd54_1 rfl) ?_
  refine D_val rfl rfl rfl (R_loadH ty52 rfl (hA1) rfl (fun _ => rfl) rfl) ?_
  refine D_val rfl rfl rfl (R_fieldAddr 0 fd2220_0 rfl) ?_
  refine D_val rfl rfl rfl (R_loadO ty3 0 rfl rfl rfl rfl (fun _ => rfl) rfl) ?_
  refine D_val rfl rfl rfl (R_index sl52 ty4 rfl rfl ⟨by omega, by omega⟩) ?_
  refine D_val rfl rfl rfl (R_loadH ty4 rfl (hta) rfl (fun _ => rfl) rfl) ?_
  refine D_val rfl rfl rfl (R_fieldAddr 1 fd54_1 rfl) ?_
  refine D_val rfl rfl rfl (R_loadH ty52 rfl (hB1) rfl (fun _ => rfl) rfl) ?_
  refine D_val rfl rfl rfl (R_fieldAddr 1 fd2220_1 rfl) ?_
  refine D_val rfl rfl rfl (R_loadO ty3 0 rfl rfl rfl rfl (fun _ => rfl) rfl) ?_
  refine D_val rfl rfl rfl (R_index sl52 ty4 rfl rfl ⟨by omega, by omega⟩) ?_
  refine D_val rfl rfl rfl (R_loadH ty4 rfl (hua) rfl (fun _ => rfl) rfl) ?_
  refine D_val rfl rfl rfl (R_boolNe (by kernel_rfl) rfl rfl) ?_
  refine D_val rfl rfl rfl (R_assign rfl) ?_
  refine D_done ?_
  refine Q_then ?_
  refine K_ret ?_
  refine results_gen (rs := [.tmp 4]) (vs := [_]) rfl ⟨rfl, trivial⟩ ?_
  rw [hg1, hg2]
  rfl
end Go.Proofs.X

namespace Go.Proofs.X
open Go Pal Go.Proofs
attribute [local irreducible] Pal.KO Pal.KC Pal.KQ Pal.KD

theorem pat_spec (d : Dt) (hok : DtOk d) (s : Int) (xs : List Int) (v1 v2 v3 w : Value) (H : View) (hd : RepDt H d v1 v2 v3) (hw : SI H w xs) (hs : 0 ≤ s ∧ s < d.ranks.length) (hl : (xs.length : Int) = d.ranks.getD s.toNat 0) (hx : ∀ x ∈ xs, 0 ≤ x ∧ x < (d.acc.length : Int)) :
    Sat Tryz.prog F2237 #[.agg #[v1, v2, v3], .int .i64 s, w] H (fun r _ => r = .int .i64 (atM d s xs)) := by
  obtain ⟨wa, wcp, rfl⟩ := hw.shape
  obtain ⟨g1, g2, g3, g4⟩ := hok.at_ok hs hl hx
  have hn := hok.n
  have hrkb := (ranksErr_ok hok.rk).2 s.toNat (by omega)
  have hxl : xs.length ≤ 2 := by
    have : d.ranks.getD s.toNat 0 = d.ranks[s.toNat] := by simp [List.getD, show s.toNat < d.ranks.length by omega]
    omega
  obtain ⟨ua1, uc1x, rfl⟩ := hd.r.shape
  obtain ⟨ua2, uc2x, rfl⟩ := hd.a.shape
  obtain ⟨ua3, uc3x, rfl⟩ := hd.t.shape
  refine enterO (n := 32) (args := [.agg #[.slice ua1 d.ranks.length uc1x, .slice ua2 d.acc.length uc2x, .slice ua3 d.to.length uc3x], .int .i64 s, .slice wa xs.length wcp]) Tryz.func141 rfl rfl rfl fun w0 => ?_
  refine K_seq ?_
  refine K_region ?_
  refine KA (A_box rfl) rfl fun b3 => ?_
  refine KV (R_assign rfl) rfl ?_
  refine K_nil ?_
  refine Q_then ?_
  refine K_seq ?_
  refine K_region ?_
  refine KV (R_assign rfl) rfl ?_
  refine K_nil ?_
  refine Q_then ?_
  refine K_seq ?_
  refine K_seq ?_
  refine K_region ?_
  refine KV (R_move rfl) rfl ?_
  refine KV (R_len sl25 rfl) rfl ?_
  refine KV (R_move rfl) rfl ?_
  refine K_nil ?_
  refine Q_then ?_
  refine K_block ?_
  refine K_loopD (G := Nat) [7, 9, 12, 13, 14, 15, 16, 17, 18, 19, 20, 21, 22, 23] (fun g => [(12, .int .i64 (g : Int)), (7, .int .i64 (placeM d.acc.length (xs.take g)))]) (fun hl g => hl) (fun g => H) (fun g => (g ≤ xs.length)) (fun g => xs.length - g) 0 (Nat.zero_le _) ⟨rfl, rfl, trivial⟩ (by simp only [args0, Nat.reduceAdd, del, memN, beqN, Nat.reduceBEq, cond_true, cond_false]; rfl) rfl rfl ?_
  rintro k hk
  try dsimp only at hk
  dsimp only [List.set, List.cons_append, List.nil_append]
  refine K_seq ?_
  refine K_region ?_
  refine KV (R_cmp rfl rfl rfl) rfl ?_
  refine K_nil ?_
  refine Q_then ?_
  refine K_seq ?_
  refine K_if rfl (fun h13 => ?_) (fun h13 => ?_)
  ·
    have hk' : k < xs.length := by omega
    obtain ⟨tb, to_, hte, hta⟩ := hw.get hk'
    cases hte
    have hpl := placeM_lt hx k hk
    have hpk : d.acc.length ^ k ≤ 262144 := pow_le2 hn.2 (by omega)
    have hxk := hx _ (List.getElem_mem hk')
    have hm0 : 0 ≤ placeM d.acc.length (xs.take k) * (d.acc.length : Int) := Int.mul_nonneg hpl.1 (by omega)
    have hm1 : placeM d.acc.length (xs.take k) * (d.acc.length : Int) ≤ 262144 * (d.acc.length : Int) := Int.mul_le_mul_of_nonneg_right (by omega) (by omega)
    refine K_skip ?_
    refine Q_then ?_
    refine K_seq ?_
    refine K_block ?_
    refine K_seq ?_
    refine K_region ?_
    refine KV (R_indexN sl25 ty3 rfl rfl (by omega)) rfl ?_
    refine KV (R_loadH ty3 rfl (hta) rfl (fun _ => rfl) rfl) rfl ?_
    refine KV (R_assign rfl) rfl ?_
    refine K_nil ?_
    refine Q_then ?_
    refine K_region ?_
    refine KV (R_move rfl) rfl ?_
    refine KV (R_fieldAddr 1 fd54_1 rfl) rfl ?_
    refine KV (R_loadO ty52 0 rfl rfl rfl rfl (fun _ => rfl) rfl) rfl ?_
    refine KV (R_len sl52 rfl) rfl ?_
    refine KV (R_mul rfl rfl (by omega)) rfl ?_
    refine KV (R_move rfl) rfl ?_
    refine KV (R_add rfl rfl (by omega)) rfl ?_
    refine KV (R_assign rfl) rfl ?_
    refine K_nil ?_
    refine Q_block ?_
    refine Q_then ?_
    refine K_region ?_
    refine KV (R_add rfl rfl (by omega)) rfl ?_
    refine KV (R_move rfl) rfl ?_
    refine K_nil ?_
    refine Q_nextD (k + 1) hk' (by (try dsimp only); omega) ⟨rfl, congrArg (fun z => some (Value.int .i64 z)) (placeM_take hk').symm, trivial⟩ rfl rfl rfl
  ·
    have hk' : k = xs.length := by omega
    subst hk'
    rw [List.take_length]
    obtain ⟨db, do_, ea, ecp, hde, htx, hes⟩ := hd.t.get g1
    cases hde
    have hgs : d.to.getD s.toNat [] = d.to[s.toNat] := by simp [List.getD, g1]
    rw [hgs] at g2
    obtain ⟨eb, eo, hee, hty⟩ := hes.get g2.2
    cases hee
    have hg2 : atM d s xs = d.to[s.toNat][(placeM d.acc.length xs).toNat] := by
      unfold atM
      rw [hgs]
      simp [List.getD, g2.2]
    refine K_exit ?_
    refine Q_then_exit ?_
    refine Q_then_exit ?_
    refine Q_block_exit ?_
    refine Q_then ?_
    refine K_seq ?_
    refine K_region ?_
    refine KV (R_fieldAddr 2 fd54_2 rfl) rfl ?_
    refine KV (R_loadO ty44 0 rfl rfl rfl rfl (fun _ => rfl) rfl) rfl ?_
    refine KV (R_move rfl) rfl ?_
    refine KV (R_index sl44 ty25 rfl rfl ⟨by omega, by omega⟩) rfl ?_
    refine KV (R_loadH ty25 rfl (htx) rfl (fun _ => rfl) rfl) rfl ?_
    refine KV (R_move rfl) rfl ?_
    refine KV (R_index sl25 ty3 rfl rfl ⟨g2.1, by omega⟩) rfl ?_
    refine KV (R_loadH ty3 rfl (hty) rfl (fun _ => rfl) rfl) rfl ?_
    refine KV (R_assign rfl) rfl ?_
    refine K_nil ?_
    refine Q_then ?_
    refine K_ret ?_
    refine results_gen (rs := [.tmp 6]) (vs := [_]) rfl ⟨rfl, trivial⟩ ?_
    rw [hg2]
    rfl

set_option maxHeartbeats 2000000 in
theorem rules_spec (d : Dt) (hok : DtOk d) (h8 : d.ranks.length ≤ 8) (hn8 : d.acc.length ≤ 8) (v1 v2 v3 : Value) (H : View) (hd : RepDt H d v1 v2 v3) : Sat Tryz.prog F2229 #[.agg #[v1, v2, v3]] H (fun r H' => ∃ a cp cells, r = .slice a (rulesD d).length cp ∧ SlAt H' (.slice a (rulesD d).length cp) (rulesD d).length cells ∧ RepL (RepR H') 3 (rulesD d) cells) := by
  have htl := hok.tl
  have hn := hok.n
  obtain ⟨ua1, uc1x, rfl⟩ := hd.r.shape
  obtain ⟨ua2, uc2x, rfl⟩ := hd.a.shape
  obtain ⟨ua3, uc3x, rfl⟩ := hd.t.shape
  refine enterO (n := 58) (args := [.agg #[.slice ua1 d.ranks.length uc1x, .slice ua2 d.acc.length uc2x, .slice ua3 d.to.length uc3x]]) Tryz.func83 rfl rfl rfl fun w0 => ?_
  refine K_seq ?_
  refine K_region ?_
  refine KA (A_box rfl) rfl fun b1 => ?_
  refine KV (R_assign rfl) rfl ?_
  refine K_nil ?_
  refine Q_then ?_
  refine K_seq ?_
  refine K_region ?_
  refine KV (R_assign rfl) rfl ?_
  refine K_nil ?_
  refine Q_then ?_
  refine K_seq ?_
  refine K_region ?_
  refine KV (R_fieldAddr 1 fd54_1 rfl) rfl ?_
  refine KV (R_loadO ty52 0 rfl rfl rfl rfl (fun _ => rfl) rfl) rfl ?_
  refine KV (R_len sl52 rfl) rfl ?_
  refine KV (R_assign rfl) rfl ?_
  refine K_nil ?_
  refine Q_then ?_
  refine K_seq ?_
  refine K_seq ?_
  refine K_region ?_
  refine KV (R_fieldAddr 2 fd54_2 rfl) rfl ?_
  refine KV (R_loadO ty44 0 rfl rfl rfl rfl (fun _ => rfl) rfl) rfl ?_
  refine KV (R_len sl44 rfl) rfl ?_
  refine KV (R_move rfl) rfl ?_
  refine K_nil ?_
  refine Q_then ?_
  refine K_block ?_
  refine K_nilrow T85 3 ?_
  refine K_loopD (G := Nat × View × Value × List Value) [3, 5, 6, 7, 8, 9, 16, 17, 18, 19, 20, 21, 22, 23, 24, 25, 26, 27, 28, 29, 30, 31, 32, 33, 34, 35, 36, 37, 38, 39, 40, 41, 42, 43, 44, 45, 46, 47, 48, 49, 50, 51, 52, 53, 54, 55, 56] (fun g => [(16, .int .i64 (g.1 : Int)), (3, g.2.2.1)]) (fun hl g => (hl.set 0 (row g.2.2.1 T85 3 (ruS d g.1).length g.2.2.2))) (fun g => g.2.1) (fun g => (g.1 ≤ d.to.length) ∧ (VLe H g.2.1) ∧ (RepL (RepR g.2.1) 3 (ruS d g.1) g.2.2.2) ∧ (∃ a c, g.2.2.1 = .slice a (ruS d g.1).length c)) (fun g => d.to.length - g.1) (0, H, nilS, []) ⟨Nat.zero_le _, VLe.refl _, .nil, _, _, rfl⟩ ⟨rfl, rfl, trivial⟩ (by simp only [args0, Nat.reduceAdd, del, memN, beqN, Nat.reduceBEq, cond_true, cond_false]; rfl) rfl rfl ?_
  rintro ⟨s, V, w, oc⟩ ⟨hs0, hV, hL, hw⟩
  dsimp only at hs0 hV hL hw
  dsimp only [List.set, List.cons_append, List.nil_append]
  obtain ⟨wa, wc, rfl⟩ := hw
  refine K_seq ?_
  refine K_region ?_
  refine KV (R_cmp rfl rfl rfl) rfl ?_
  refine K_nil ?_
  refine Q_then ?_
  refine K_seq ?_
  refine K_if rfl (fun h17 => ?_) (fun h17 => ?_)
  ·
    have hs' : s < d.to.length := by omega
    have hs2 : s < d.ranks.length := by omega
    obtain ⟨tb, to_, ea, ecp, hte, tA, tE⟩ := (hd.mono hV).t.get hs'
    cases hte
    have hrd := rd1_len hok hs2 hs'
    have hrs := rd1_small hok hn8 hs2
    have hrk := (ranksErr_ok hok.rk).2 s hs2
    have hge : d.ranks.getD s 0 = d.ranks[s] := by simp [List.getD, hs2]
    refine K_skip ?_
    refine Q_then ?_
    refine K_seq ?_
    refine K_block ?_
    refine K_seq ?_
    refine K_region ?_
    refine KV (R_move rfl) rfl ?_
    refine KV (R_indexN sl44 ty25 rfl rfl (by omega)) rfl ?_
    refine KV (R_loadH ty25 rfl (tA) rfl (fun _ => rfl) rfl) rfl ?_
    refine KV (R_assign rfl) rfl ?_
    refine KV (R_assign rfl) rfl ?_
    refine K_nil ?_
    refine Q_then ?_
    refine K_seq ?_
    refine K_region ?_
    refine KV (R_move rfl) rfl ?_
    refine KV (R_len sl25 rfl) rfl ?_
    refine KV (R_move rfl) rfl ?_
    refine K_nil ?_
    refine Q_then ?_
    refine K_block ?_
    refine K_loopD (G := Nat × View × Value × List Value) [3, 7, 8, 9, 23, 24, 25, 26, 27, 28, 29, 30, 31, 32, 33, 34, 35, 36, 37, 38, 39, 40, 41, 42, 43, 44, 45, 46, 47, 48, 49, 50, 51, 52, 53, 54, 55] (fun g => [(23, .int .i64 (g.1 : Int)), (3, g.2.2.1)]) (fun hl g => (hl.set 0 (row g.2.2.1 T85 3 (ruP d s g.1).length g.2.2.2))) (fun g => g.2.1) (fun g => (g.1 ≤ d.to[s].length) ∧ (VLe H g.2.1) ∧ (VLe V g.2.1) ∧ (RepL (RepR g.2.1) 3 (ruP d s g.1) g.2.2.2) ∧ (∃ a c, g.2.2.1 = .slice a (ruP d s g.1).length c)) (fun g => d.to[s].length - g.1) (0, V, .slice wa (ruS d s).length wc, oc) ⟨Nat.zero_le _, hV, VLe.refl _, by rw [ruP_zero]; exact hL, _, _, by rw [ruP_zero]⟩ ⟨rfl, rfl, trivial⟩ (by simp only [args0, Nat.reduceAdd, del, memN, beqN, Nat.reduceBEq, cond_true, cond_false]; rfl) (by (try dsimp only); rw [ruP_zero]; rfl) rfl ?_
    rintro ⟨p, V2, w, oc⟩ ⟨hp0, hV2, hVV, hL, hw⟩
    dsimp only at hp0 hV2 hVV hL hw
    dsimp only [List.set, List.cons_append, List.nil_append]
    obtain ⟨wa, wc, rfl⟩ := hw
    refine K_seq ?_
    refine K_region ?_
    refine KV (R_cmp rfl rfl rfl) rfl ?_
    refine K_nil ?_
    refine Q_then ?_
    refine K_seq ?_
    refine K_if rfl (fun h24 => ?_) (fun h24 => ?_)
    ·
      have hp' : p < d.to[s].length := by omega
      have hp3 : p < (rulesD1 d s).length := by omega
      obtain ⟨eb, eo, hee, eA⟩ := (SI.mono tE hVV).get hp'
      cases hee
      obtain ⟨rb, ro, hre, rA⟩ := (hd.mono hV2).r.get hs2
      cases hre
      have hrl := rd1_get hs' hp' hp3
      have hln := ruP_len hok hn8 h8 (s := s) (p := p) hs2
      have hps : p < d.acc.length ^ (d.ranks.getD s 0).toNat := by
        unfold rulesD1 at hp3; rwa [List.length_map, tups_len] at hp3
      have hsi : i64ok (s : Int) := by simp only [i64ok]; omega
      have heb := hok.e _ (List.getElem_mem hs') _ (List.getElem_mem hp')
      have hti : i64ok d.to[s][p] := by simp only [i64ok]; omega
      refine K_skip ?_
      refine Q_then ?_
      refine K_seq ?_
      refine K_block ?_
      refine K_seq ?_
      refine K_region ?_
      refine KV (R_move rfl) rfl ?_
      refine KV (R_indexN sl25 ty3 rfl rfl (by omega)) rfl ?_
      refine KV (R_loadH ty3 rfl (eA) rfl (fun _ => rfl) rfl) rfl ?_
      refine KV (R_assign rfl) rfl ?_
      refine KV (R_assign rfl) rfl ?_
      refine K_nil ?_
      refine Q_then ?_
      refine K_seq ?_
      refine K_region ?_
      refine KV (R_move rfl) rfl ?_
      refine KV (R_move rfl) rfl ?_
      refine KV (R_build z85 pl85 rfl rfl) rfl ?_
      refine KA (A_alloc z85) rfl fun b9 => ?_
      refine K_storeW ty85 0 rfl rfl rfl rfl rfl rfl rfl ?_
      refine K_nil ?_
      refine Q_then ?_
      refine K_seq ?_
      refine K_seq ?_
      refine K_region ?_
      refine KV (R_fieldAddr 0 fd54_0 rfl) rfl ?_
      refine KV (R_loadO ty47 2 rfl rfl rfl rfl (fun _ => rfl) rfl) rfl ?_
      refine KV (R_move rfl) rfl ?_
      refine KV (R_indexN sl47 ty3 rfl rfl (by omega)) rfl ?_
      refine KV (R_loadH ty3 rfl (rA) rfl (fun _ => rfl) rfl) rfl ?_
      refine K_nil ?_
      refine Q_then ?_
      refine K_block ?_
      refine K_seq ?_
      refine K_region ?_
      refine KV (R_cmp rfl rfl rfl) rfl ?_
      refine KV (R_assign rfl) rfl ?_
      refine K_nil ?_
      refine Q_then ?_
      refine K_if rfl (fun h37 => ?_) (fun h37 => ?_)
      ·
        refine K_region ?_
        refine KV (R_move rfl) rfl ?_
        refine KA (A_buildSlice (vs := [.int .i64 (p : Int)]) sl25 ty3 z3 rfl rfl (by simp [Value.cells]) (by simp) rfl (by decide)) rfl fun b39 => ?_
        refine KV (R_fieldAddr 1 fd85_1 rfl) rfl ?_
        refine K_store ty25 1 rfl rfl rfl rfl rfl rfl ?_
        refine K_nil ?_
        refine KQ_front 0 rfl ?_
        try dsimp only [List.eraseIdx]
        refine KQ_pubF fun U1 hU1 hb39 => ?_
        skip
        have hdg : digs d.acc.length (d.ranks.getD s 0).toNat p = [(p : Int)] := by
          rw [hge.trans h37]
          exact digs_one (by rw [hge.trans h37] at hps; simpa using hps)
        have hsi2 : SI U1 (.slice (some ⟨b39, 0, none⟩) 1 1) [(p : Int)] := ⟨⟨_, _, rfl, .inr ⟨b39, 0, rfl, At.of hb39⟩⟩, fun x hx => by rw [List.mem_singleton.1 hx]; simp only [i64ok]; omega⟩
        refine Q_block ?_
        refine Q_then ?_
        refine K_region ?_
        refine KV (R_move rfl) rfl ?_
        refine KV (R_loadW ty85 0 rfl rfl rfl rfl) rfl ?_
        refine KA (A_buildSlice (vs := [.agg #[.int .i64 (s : Int), .slice (some ⟨b39, 0, none⟩) 1 1, .int .i64 d.to[s][p]]]) sl48 ty85 z85 rfl rfl (by simp [Value.cells]) (by simp) rfl (by decide)) rfl fun b53 => ?_
        refine K_append1 1 ap48 rfl rfl rfl rfl rfl rfl ⟨by omega, by omega⟩ rfl fun a54 k54 hn54 => ?_
        refine KV (R_assign rfl) rfl ?_
        refine K_nil ?_
        refine Q_block ?_
        refine Q_then ?_
        refine K_region ?_
        refine KV (R_add rfl rfl (by omega)) rfl ?_
        refine KV (R_move rfl) rfl ?_
        refine K_nil ?_
        refine KQ_sel [0, 1] rfl ?_
        have hrr : RepR U1 ⟨(s : Int), digs d.acc.length (d.ranks.getD s 0).toNat p, d.to[s][p]⟩ [.int .i64 (s : Int), .slice (some ⟨b39, 0, none⟩) 1 1, .int .i64 d.to[s][p]] := by
          rw [hdg]
          exact ⟨_, _, rfl, hsi2, hsi, hti, by simp⟩
        refine Q_nextD (p + 1, U1, .slice a54 ((ruP d s p).length + 1) k54, oc ++ [.int .i64 (s : Int), .slice (some ⟨b39, 0, none⟩) 1 1, .int .i64 d.to[s][p]]) ⟨hp', hV2.trans hU1, hVV.trans hU1, by rw [ruP_succ hp3, hrl]; exact (hL.imp fun x cs h => h.mono hU1).snoc hrr rfl, _, _, by rw [ruP_succ hp3, List.length_append]; rfl⟩ (by (try dsimp only); omega) ⟨rfl, rfl, trivial⟩ rfl (by (try dsimp only [List.set]); rw [ruP_succ hp3, List.length_append]; first | done | rfl) rfl
      ·
        refine K_seq ?_
        refine K_region ?_
        refine KV (R_cmp rfl rfl rfl) rfl ?_
        refine KV (R_assign rfl) rfl ?_
        refine K_nil ?_
        refine Q_then ?_
        refine K_if rfl (fun h42 => ?_) (fun h42 => ?_)
        ·
          refine K_regionD (fin := true) (R := [0, 1, 2, 3, 4, 5, 6, 7, 8]) (by kernel_rfl) mixed (.cons_cons _ (.cons_cons _ (.cons_cons _ (List.nil_sublist _)))) ?_
          refine D_val rfl rfl rfl (R_move rfl) ?_
          refine D_val rfl rfl rfl (R_move rfl) ?_
          refine D_val rfl rfl rfl (R_quo rfl rfl (by omega) (quo_nat (by omega))) ?_
          refine D_val rfl rfl rfl (R_move rfl) ?_
          refine D_val rfl rfl rfl (R_move rfl) ?_
          refine D_val rfl rfl rfl (R_rem rfl rfl (by omega)) ?_
          refine D_alloc rfl rfl rfl (A_buildSlice (vs := [.int .i64 ((p / d.acc.length : Nat) : Int), .int .i64 ((p : Int).tmod (d.acc.length : Int))]) sl25 ty3 z3 rfl rfl (by simp [Value.cells]) (by simp) rfl (by decide)) fun b49 => ?_
          refine D_val rfl rfl rfl (R_fieldAddr 1 fd85_1 rfl) ?_
          refine D_lastStore ty25 1 rfl rfl rfl rfl rfl rfl rfl rfl ?_
          refine KQ_front 0 rfl ?_
          try dsimp only [List.eraseIdx]
          refine KQ_pubF fun U2 hU2 hb49 => ?_
          skip
          have hdg : digs d.acc.length (d.ranks.getD s 0).toNat p = [((p / d.acc.length : Nat) : Int), ((p % d.acc.length : Nat) : Int)] := by
            rw [hge.trans h42]
            exact digs_two (by rw [hge.trans h42] at hps; simpa [Nat.pow_succ] using hps)
          rw [rem_nat] at hb49
          have hqp := Nat.div_le_self p d.acc.length
          have hrp := Nat.mod_le p d.acc.length
          have hsi2 : SI U2 (.slice (some ⟨b49, 0, none⟩) 2 2) [((p / d.acc.length : Nat) : Int), ((p % d.acc.length : Nat) : Int)] := ⟨⟨_, _, rfl, .inr ⟨b49, 0, rfl, At.of hb49⟩⟩, fun x hx => by
            generalize p / d.acc.length = z1 at *
            generalize p % d.acc.length = z2 at *
            simp at hx; simp only [i64ok]; omega⟩
          refine Q_block ?_
          refine Q_then ?_
          refine K_region ?_
          refine KV (R_move rfl) rfl ?_
          refine KV (R_loadW ty85 0 rfl rfl rfl rfl) rfl ?_
          refine KA (A_buildSlice (vs := [.agg #[.int .i64 (s : Int), .slice (some ⟨b49, 0, none⟩) 2 2, .int .i64 d.to[s][p]]]) sl48 ty85 z85 rfl rfl (by simp [Value.cells]) (by simp) rfl (by decide)) rfl fun b53 => ?_
          refine K_append1 1 ap48 rfl rfl rfl rfl rfl rfl ⟨by omega, by omega⟩ rfl fun a54 k54 hn54 => ?_
          refine KV (R_assign rfl) rfl ?_
          refine K_nil ?_
          refine Q_block ?_
          refine Q_then ?_
          refine K_region ?_
          refine KV (R_add rfl rfl (by omega)) rfl ?_
          refine KV (R_move rfl) rfl ?_
          refine K_nil ?_
          refine KQ_sel [0, 1] rfl ?_
          have hrr : RepR U2 ⟨(s : Int), digs d.acc.length (d.ranks.getD s 0).toNat p, d.to[s][p]⟩ [.int .i64 (s : Int), .slice (some ⟨b49, 0, none⟩) 2 2, .int .i64 d.to[s][p]] := by
            rw [hdg]
            exact ⟨_, _, rfl, hsi2, hsi, hti, by simp⟩
          refine Q_nextD (p + 1, U2, .slice a54 ((ruP d s p).length + 1) k54, oc ++ [.int .i64 (s : Int), .slice (some ⟨b49, 0, none⟩) 2 2, .int .i64 d.to[s][p]]) ⟨hp', hV2.trans hU2, hVV.trans hU2, by rw [ruP_succ hp3, hrl]; exact (hL.imp fun x cs h => h.mono hU2).snoc hrr rfl, _, _, by rw [ruP_succ hp3, List.length_append]; rfl⟩ (by (try dsimp only); omega) ⟨rfl, rfl, trivial⟩ rfl (by (try dsimp only [List.set]); rw [ruP_succ hp3, List.length_append]; first | done | rfl) rfl
        ·
          have hdg : digs d.acc.length (d.ranks.getD s 0).toNat p = [] := by
            rw [show d.ranks.getD s 0 = 0 by omega]; rfl
          have hsi2 : SI V2 (.slice none 0 0) [] := ⟨⟨none, 0, rfl, .inl ⟨rfl, rfl⟩⟩, by simp⟩
          refine K_skip ?_
          refine Q_block ?_
          refine Q_then ?_
          refine K_region ?_
          refine KV (R_move rfl) rfl ?_
          refine KV (R_loadW ty85 0 rfl rfl rfl rfl) rfl ?_
          refine KA (A_buildSlice (vs := [.agg #[.int .i64 (s : Int), .slice none 0 0, .int .i64 d.to[s][p]]]) sl48 ty85 z85 rfl rfl (by simp [Value.cells]) (by simp) rfl (by decide)) rfl fun b53 => ?_
          refine K_append1 1 ap48 rfl rfl rfl rfl rfl rfl ⟨by omega, by omega⟩ rfl fun a54 k54 hn54 => ?_
          refine KV (R_assign rfl) rfl ?_
          refine K_nil ?_
          refine Q_block ?_
          refine Q_then ?_
          refine K_region ?_
          refine KV (R_add rfl rfl (by omega)) rfl ?_
          refine KV (R_move rfl) rfl ?_
          refine K_nil ?_
          refine KQ_sel [0, 1] rfl ?_
          have hrr : RepR V2 ⟨(s : Int), digs d.acc.length (d.ranks.getD s 0).toNat p, d.to[s][p]⟩ [.int .i64 (s : Int), .slice none 0 0, .int .i64 d.to[s][p]] := by
            rw [hdg]
            exact ⟨_, _, rfl, hsi2, hsi, hti, by simp⟩
          refine Q_nextD (p + 1, V2, .slice a54 ((ruP d s p).length + 1) k54, oc ++ [.int .i64 (s : Int), .slice none 0 0, .int .i64 d.to[s][p]]) ⟨hp', hV2.trans (VLe.refl _), hVV.trans (VLe.refl _), by rw [ruP_succ hp3, hrl]; exact (hL.imp fun x cs h => h.mono (VLe.refl _)).snoc hrr rfl, _, _, by rw [ruP_succ hp3, List.length_append]; rfl⟩ (by (try dsimp only); omega) ⟨rfl, rfl, trivial⟩ rfl (by (try dsimp only [List.set]); rw [ruP_succ hp3, List.length_append]; first | done | rfl) rfl
    ·
      have hp' : p = d.to[s].length := by omega
      subst hp'
      refine K_exit ?_
      refine Q_then_exit ?_
      refine Q_then_exit ?_
      refine Q_block_exit ?_
      refine Q_block ?_
      refine Q_then ?_
      refine K_region ?_
      refine KV (R_add rfl rfl (by omega)) rfl ?_
      refine KV (R_move rfl) rfl ?_
      refine K_nil ?_
      refine Q_nextD (s + 1, V2, .slice wa (ruP d s d.to[s].length).length wc, oc) ⟨hs', hV2, by rw [← ruP_full, hrd]; exact hL, _, _, by rw [← ruP_full, hrd]⟩ (by (try dsimp only); omega) ⟨rfl, rfl, trivial⟩ rfl (by (try dsimp only [List.set]); rw [← ruP_full, hrd]; first | done | rfl) rfl
  ·
    have hs' : s = d.to.length := by omega
    subst hs'
    refine K_exit ?_
    refine Q_then_exit ?_
    refine Q_then_exit ?_
    refine Q_block_exit ?_
    refine Q_then ?_
    refine K_seq ?_
    refine K_region ?_
    refine KV (R_move rfl) rfl ?_
    refine KV (R_assign rfl) rfl ?_
    refine K_nil ?_
    refine Q_then ?_
    refine K_ret ?_
    refine KQ_pubrow rfl fun Hp hp hrow => ?_
    refine results_gen (rs := [.tmp 2]) (vs := [_]) rfl ⟨rfl, trivial⟩ ?_
    rw [show d.to.length = d.ranks.length from htl, ruS_all] at hL hrow ⊢
    exact ⟨_, _, oc, rfl, hrow.sl, hL.imp fun x cs h => h.mono hp⟩
end Go.Proofs.X

namespace Go.Proofs.X
open Go Pal Go.Proofs
attribute [local irreducible] Pal.KO Pal.KC Pal.KQ Pal.KD
theorem mt2036 : Tryz.prog.underlying T2036 = some (.map T3 T25) := by kernel_rfl
set_option maxRecDepth 4000 in
set_option maxHeartbeats 4000000 in
theorem lists_spec36 (xs : List Int) (xv : Value) (mo : Nat) (ps : List (Rl × Value)) (H : View) (hx : SI H xv xs) (hx2 : xs.length ≤ 2) (hq : ∀ q, (ofQ ps q).length ≤ 16) (hi8 : ∀ q, ∀ x ∈ ofQ ps q, i64ok x) :
    SatO Tryz.prog F2236 #[xv, mp mo] H [blk mo (mapOb (ofK ps)), many (rowsFrom T3 ps)] (fun r H' q => q = [blk mo (mapOb (ofK ps)), many (rowsFrom T3 ps)] ∧ SSI H' r (listsP (ofQ ps) xs)) := by
  obtain ⟨xa, xc, rfl⟩ := hx.shape
  refine enterO (n := 47) (args := [.slice xa xs.length xc, mp mo]) Tryz.func140 rfl rfl rfl fun w0 => ?_
  refine K_seq ?_
  refine K_region ?_
  refine KV (R_assign rfl) rfl ?_
  refine K_nil ?_
  refine Q_then ?_
  refine K_seq ?_
  refine K_region ?_
  refine KA (A_buildSlice (vs := [.slice none 0 0]) sl44 ty25 z25 rfl rfl (by simp [Value.cells]) (by simp) rfl (by decide)) rfl fun b13 => ?_
  refine KV (R_assign rfl) rfl ?_
  refine K_nil ?_
  refine KQ_front 0 rfl ?_
  try dsimp only [List.eraseIdx]
  refine KQ_pubF fun V0 hv0 hb13 => ?_
  skip
  have hS0 : SSI V0 (slc 1 b13) [[]] := ⟨[.slice none 0 0], ⟨_, _, rfl, .inr ⟨b13, 0, rfl, At.of hb13⟩⟩, RepL.one ⟨_, rfl, ⟨none, 0, rfl, .inl ⟨rfl, rfl⟩⟩, by simp⟩ rfl⟩
  refine Q_then ?_
  refine K_seq ?_
  refine K_seq ?_
  refine K_region ?_
  refine KV (R_move rfl) rfl ?_
  refine KV (R_len sl25 rfl) rfl ?_
  refine KV (R_move rfl) rfl ?_
  refine K_nil ?_
  refine Q_then ?_
  refine K_block ?_
  refine K_loopD (G := Nat × View × Value) [5, 7, 8, 10, 12, 16, 17, 18, 19, 20, 21, 22, 23, 24, 25, 26, 27, 28, 29, 30, 31, 32, 33, 34, 35, 36, 37, 38, 39, 40, 41, 42, 43, 44, 45] (fun g => [(16, .int .i64 (g.1 : Int)), (5, g.2.2)]) (fun hl g => hl) (fun g => g.2.1) (fun g => (g.1 ≤ xs.length) ∧ (VLe H g.2.1) ∧ (SSI g.2.1 g.2.2 (listsP (ofQ ps) (xs.take g.1)))) (fun g => xs.length - g.1) (0, V0, _) ⟨Nat.zero_le _, hv0, hS0⟩ ⟨rfl, rfl, trivial⟩ (by simp only [args0, Nat.reduceAdd, del, memN, beqN, Nat.reduceBEq, cond_true, cond_false]; rfl) rfl rfl ?_
  rintro ⟨i, V, w5⟩ ⟨hi0, hV, hS⟩
  dsimp only at hi0 hV hS
  dsimp only [List.set, List.cons_append, List.nil_append]
  refine K_seq ?_
  refine K_region ?_
  refine KV (R_cmp rfl rfl rfl) rfl ?_
  refine K_nil ?_
  refine Q_then ?_
  refine K_seq ?_
  refine K_if rfl (fun h17 => ?_) (fun h17 => ?_)
  ·
    have hi' : i < xs.length := by omega
    obtain ⟨xb, xo, hxe, xA⟩ := (hx.mono hV).get hi'
    cases hxe
    obtain ⟨la, lc, rfl⟩ := hS.shape
    have hol := listsP_len (B := 16) (f := ofQ ps) hq xs i (by omega)
    have hol2 : (16 : Nat) ^ i ≤ 16 ^ 2 := Nat.pow_le_pow_right (by decide) (by omega)
    have hqi := hq xs[i]
    refine K_skip ?_
    refine Q_then ?_
    refine K_seq ?_
    refine K_block ?_
    refine K_seq ?_
    refine K_region ?_
    refine KV (R_indexN sl25 ty3 rfl rfl (by omega)) rfl ?_
    refine KV (R_loadH ty3 rfl (xA) rfl (fun _ => rfl) rfl) rfl ?_
    refine KV (R_assign rfl) rfl ?_
    refine K_nil ?_
    refine Q_then ?_
    refine K_seq ?_
    refine K_region ?_
    refine KV (R_assign rfl) rfl ?_
    refine K_nil ?_
    refine Q_then ?_
    refine K_seq ?_
    refine K_seq ?_
    refine K_region ?_
    refine KV (R_move rfl) rfl ?_
    refine KV (R_len sl44 rfl) rfl ?_
    refine KV (R_move rfl) rfl ?_
    refine K_nil ?_
    refine Q_then ?_
    refine K_block ?_
    refine K_nilrow T25 1 ?_
    refine K_loopD (G := Nat × View × Value × List Value) [8, 10, 12, 22, 23, 24, 25, 26, 27, 28, 29, 30, 31, 32, 33, 34, 35, 36, 37, 38, 39, 40, 41, 42, 43] (fun g => [(22, .int .i64 (g.1 : Int)), (8, g.2.2.1)]) (fun hl g => (hl.set 0 (row g.2.2.1 T25 1 (outP (ofQ ps) ((listsP (ofQ ps) (xs.take i)).take g.1) xs[i]).length g.2.2.2))) (fun g => g.2.1) (fun g => (g.1 ≤ (listsP (ofQ ps) (xs.take i)).length) ∧ (VLe H g.2.1) ∧ (VLe V g.2.1) ∧ (RepL (RSI g.2.1) 1 (outP (ofQ ps) ((listsP (ofQ ps) (xs.take i)).take g.1) xs[i]) g.2.2.2) ∧ (∃ a c, g.2.2.1 = .slice a (outP (ofQ ps) ((listsP (ofQ ps) (xs.take i)).take g.1) xs[i]).length c)) (fun g => (listsP (ofQ ps) (xs.take i)).length - g.1) (0, V, nilS, []) ⟨Nat.zero_le _, hV, VLe.refl _, .nil, _, _, rfl⟩ ⟨rfl, rfl, trivial⟩ (by simp only [args0, Nat.reduceAdd, del, memN, beqN, Nat.reduceBEq, cond_true, cond_false]; rfl) rfl rfl ?_
    rintro ⟨j, V2, w8, oc⟩ ⟨hj0, hV2, hVV, hL, hw⟩
    dsimp only at hj0 hV2 hVV hL hw
    dsimp only [List.set, List.cons_append, List.nil_append]
    obtain ⟨wa, wc, rfl⟩ := hw
    refine K_seq ?_
    refine K_region ?_
    refine KV (R_cmp rfl rfl rfl) rfl ?_
    refine K_nil ?_
    refine Q_then ?_
    refine K_seq ?_
    refine K_if rfl (fun h23 => ?_) (fun h23 => ?_)
    ·
      have hj' : j < (listsP (ofQ ps) (xs.take i)).length := by omega
      obtain ⟨lb, lo, ea, ecp, hle, lA, lS⟩ := (hS.mono hVV).get hj'
      cases hle
      have hll := (mem_listsP (by omega) (List.getElem_mem hj')).1
      have hjl := outP_len (B := 16) hq xs[i] ((listsP (ofQ ps) (xs.take i)).take j)
      rw [List.length_take] at hjl
      have hjm : min j (listsP (ofQ ps) (xs.take i)).length * 16 ≤ 256 * 16 := Nat.mul_le_mul_right _ (by omega)
      refine K_skip ?_
      refine Q_then ?_
      refine K_seq ?_
      refine K_block ?_
      refine K_seq ?_
      refine K_region ?_
      refine KV (R_indexN sl44 ty25 rfl rfl (by omega)) rfl ?_
      refine KV (R_loadH ty25 rfl (lA) rfl (fun _ => rfl) rfl) rfl ?_
      refine KV (R_assign rfl) rfl ?_
      refine K_nil ?_
      refine Q_then ?_
      refine K_seq ?_
      refine KC_ofshape 2 rfl xs[i] ?_
      rintro ⟨sa, sc, hsv, hsr⟩
      refine K_region ?_
      refine KV (R_move rfl) rfl ?_
      refine KV (R_move rfl) rfl ?_
      refine KV (R_lookV mt2036 (by kernel_rfl) z25 rfl rfl (MapAt.at 1 rfl) hsv) rfl ?_
      refine KV (R_len sl25 rfl) rfl ?_
      refine KV (R_move rfl) rfl ?_
      refine K_nil ?_
      refine Q_then ?_
      refine K_block ?_
      refine K_loopD (G := Nat × View × Value × List Value) [8, 12, 30, 31, 32, 33, 34, 35, 36, 37, 38, 39, 40, 41, 42] (fun g => [(30, .int .i64 (g.1 : Int)), (8, g.2.2.1)]) (fun hl g => (hl.set 0 (row g.2.2.1 T25 1 ((outP (ofQ ps) ((listsP (ofQ ps) (xs.take i)).take j) xs[i]) ++ oneT' (ofQ ps) (listsP (ofQ ps) (xs.take i))[j] xs[i] g.1).length g.2.2.2))) (fun g => g.2.1) (fun g => (g.1 ≤ (ofQ ps xs[i]).length) ∧ (VLe H g.2.1) ∧ (VLe V g.2.1) ∧ (VLe V2 g.2.1) ∧ (RepL (RSI g.2.1) 1 ((outP (ofQ ps) ((listsP (ofQ ps) (xs.take i)).take j) xs[i]) ++ oneT' (ofQ ps) (listsP (ofQ ps) (xs.take i))[j] xs[i] g.1) g.2.2.2) ∧ (∃ a c, g.2.2.1 = .slice a ((outP (ofQ ps) ((listsP (ofQ ps) (xs.take i)).take j) xs[i]) ++ oneT' (ofQ ps) (listsP (ofQ ps) (xs.take i))[j] xs[i] g.1).length c)) (fun g => (ofQ ps xs[i]).length - g.1) (0, V2, .slice wa (outP (ofQ ps) ((listsP (ofQ ps) (xs.take i)).take j) xs[i]).length wc, oc) ⟨Nat.zero_le _, hV2, hVV, VLe.refl _, by show RepL _ _ ((outP (ofQ ps) ((listsP (ofQ ps) (xs.take i)).take j) xs[i]) ++ []) _; rw [List.append_nil]; exact hL, _, _, by show _ = Value.slice _ ((outP (ofQ ps) ((listsP (ofQ ps) (xs.take i)).take j) xs[i]) ++ []).length _; rw [List.append_nil]⟩ ⟨rfl, rfl, trivial⟩ (by simp only [args0, Nat.reduceAdd, del, memN, beqN, Nat.reduceBEq, cond_true, cond_false]; rfl) (by (try dsimp only); rw [show (outP (ofQ ps) ((listsP (ofQ ps) (xs.take i)).take j) xs[i]) ++ oneT' (ofQ ps) (listsP (ofQ ps) (xs.take i))[j] xs[i] 0 = (outP (ofQ ps) ((listsP (ofQ ps) (xs.take i)).take j) xs[i]) from List.append_nil _]; rfl) rfl ?_
      rintro ⟨k, V3, w8, oc⟩ ⟨hk0, hV3, hVV3, hVl3, hL, hw⟩
      dsimp only at hk0 hV3 hVV3 hVl3 hL hw
      dsimp only [List.set, List.cons_append, List.nil_append]
      obtain ⟨wa, wc, rfl⟩ := hw
      refine K_seq ?_
      refine K_region ?_
      refine KV (R_cmp rfl rfl rfl) rfl ?_
      refine K_nil ?_
      refine Q_then ?_
      refine K_seq ?_
      refine K_if rfl (fun h31 => ?_) (fun h31 => ?_)
      ·
        have hk' : k < (ofQ ps xs[i]).length := by omega
        obtain ⟨sb, hsb, hbr⟩ := hsr k hk'
        subst hsb
        have hii : ∀ y ∈ (listsP (ofQ ps) (xs.take i))[j] ++ [(ofQ ps xs[i])[k]], i64ok y := fun y hy => by
          rcases List.mem_append.1 hy with hy | hy
          · exact lS.2 y hy
          · rw [List.mem_singleton.1 hy]; exact hi8 _ _ (List.getElem_mem hk')
        have hkl : ((outP (ofQ ps) ((listsP (ofQ ps) (xs.take i)).take j) xs[i]) ++ oneT' (ofQ ps) (listsP (ofQ ps) (xs.take i))[j] xs[i] k).length ≤ 256 * 16 + 16 := by
          rw [List.length_append]
          have : (oneT' (ofQ ps) (listsP (ofQ ps) (xs.take i))[j] xs[i] k).length ≤ 16 := by unfold oneT'; rw [List.length_map, List.length_take]; omega
          omega
        refine K_skip ?_
        refine Q_then ?_
        refine K_seq ?_
        refine K_block ?_
        refine K_seq ?_
        refine K_region ?_
        refine KV (R_indexN sl25 ty3 rfl rfl (by omega)) rfl ?_
        refine KV (R_loadMR ty3 2 rfl rfl hbr (ints_at hk' (by omega))) rfl ?_
        refine KV (R_assign rfl) rfl ?_
        refine K_nil ?_
        refine Q_then ?_
        refine K_region ?_
        refine KV (R_move rfl) rfl ?_
        refine KV (R_move rfl) rfl ?_
        refine K_callO (first := []) [] _ (List.Perm.refl _) c65 rfl rfl rfl (SatO.rowshape (clone25o_spec [] (listsP (ofQ ps) (xs.take i))[j] _ V3 (lS.mono (hVl3)).1.rd (by omega))) ?_
        rintro _ V3x q hv3 ⟨ca, cc, rfl, rfl⟩
        dsimp only [List.cons_append, List.nil_append]

        refine KV (R_move rfl) rfl ?_
        refine KA (A_buildSlice (vs := [.int .i64 (ofQ ps xs[i])[k]]) sl25 ty3 z3 rfl rfl (by simp [Value.cells]) (by simp) rfl (by decide)) rfl fun b38 => ?_
        refine K_append1 0 ap25 rfl rfl rfl rfl rfl rfl ⟨by omega, by omega⟩ rfl fun a39 k39 hn39 => ?_
        refine KA (A_buildSlice (vs := [.slice a39 ((listsP (ofQ ps) (xs.take i))[j].length + 1) k39]) sl44 ty25 z25 rfl rfl (by simp [Value.cells]) (by simp) rfl (by decide)) rfl fun b40 => ?_
        refine K_append1 1 ap44 rfl rfl rfl rfl rfl rfl ⟨by omega, by omega⟩ rfl fun a41 k41 hn41 => ?_
        refine KV (R_assign rfl) rfl ?_
        refine K_nil ?_
        refine KQ_front 1 rfl ?_
        try dsimp only [List.eraseIdx]
        refine KQ_pubrowF fun V4 hv4 hcrow _ => ?_
        skip
        refine Q_block ?_
        refine Q_then ?_
        refine K_region ?_
        refine KV (R_add rfl rfl (by omega)) rfl ?_
        refine KV (R_move rfl) rfl ?_
        refine K_nil ?_
        refine Q_nextD (k + 1, V4, .slice a41 (((outP (ofQ ps) ((listsP (ofQ ps) (xs.take i)).take j) xs[i]) ++ oneT' (ofQ ps) (listsP (ofQ ps) (xs.take i))[j] xs[i] k).length + 1) k41, oc ++ [.slice a39 ((listsP (ofQ ps) (xs.take i))[j].length + 1) k39]) ⟨hk', hV3.trans (hv3.trans hv4), hVV3.trans (hv3.trans hv4), hVl3.trans (hv3.trans hv4), by rw [oneT'_succ hk', ← List.append_assoc]; exact (hL.imp fun x cs h => h.mono (hv3.trans hv4)).snoc (rsi_snoc hcrow.sl hii) rfl, _, _, by rw [oneT'_succ hk', ← List.append_assoc, @List.length_append _ ((outP (ofQ ps) ((listsP (ofQ ps) (xs.take i)).take j) xs[i]) ++ oneT' (ofQ ps) (listsP (ofQ ps) (xs.take i))[j] xs[i] k)]; rfl⟩ (by (try dsimp only); omega) ⟨rfl, rfl, trivial⟩ rfl (by (try dsimp only [List.set]); rw [oneT'_succ hk', ← List.append_assoc, @List.length_append _ ((outP (ofQ ps) ((listsP (ofQ ps) (xs.take i)).take j) xs[i]) ++ oneT' (ofQ ps) (listsP (ofQ ps) (xs.take i))[j] xs[i] k)]; first | done | rfl) rfl
      ·
        have hk' : k = (ofQ ps xs[i]).length := by omega
        subst hk'
        refine K_exit ?_
        refine Q_then_exit ?_
        refine Q_then_exit ?_
        refine Q_block_exit ?_
        refine Q_block ?_
        refine Q_then ?_
        refine K_region ?_
        refine KV (R_add rfl rfl (by omega)) rfl ?_
        refine KV (R_move rfl) rfl ?_
        refine K_nil ?_
        refine Q_nextD (j + 1, V3, .slice wa ((outP (ofQ ps) ((listsP (ofQ ps) (xs.take i)).take j) xs[i]) ++ oneT' (ofQ ps) (listsP (ofQ ps) (xs.take i))[j] xs[i] (ofQ ps xs[i]).length).length wc, oc) ⟨hj', hV3, hVV3, by rw [outP_succ hj', ← oneT'_all]; exact hL, _, _, by rw [outP_succ hj', ← oneT'_all]⟩ (by (try dsimp only); omega) ⟨rfl, rfl, trivial⟩ rfl (by (try dsimp only [List.set]); rw [outP_succ hj', ← oneT'_all]; first | done | rfl) rfl
    ·
      have hj' : j = (listsP (ofQ ps) (xs.take i)).length := by omega
      subst hj'
      rw [List.take_length, ← listsP_succ hi'] at hL ⊢
      refine K_exit ?_
      refine Q_then_exit ?_
      refine Q_then_exit ?_
      refine Q_block_exit ?_
      refine Q_then ?_
      refine K_region ?_
      refine KV (R_move rfl) rfl ?_
      refine KV (R_assign rfl) rfl ?_
      refine K_nil ?_
      refine KQ_front 0 rfl ?_
      try dsimp only [List.eraseIdx]
      refine KQ_pubrowF fun V5 hv5 hrow _ => ?_
      skip
      refine Q_block ?_
      refine Q_then ?_
      refine K_region ?_
      refine KV (R_add rfl rfl (by omega)) rfl ?_
      refine KV (R_move rfl) rfl ?_
      refine K_nil ?_
      refine Q_nextD (i + 1, V5, .slice wa (listsP (ofQ ps) (xs.take (i + 1))).length wc) ⟨hi', hV2.trans hv5, ⟨oc, hrow.sl, hL.imp fun x cs h => h.mono hv5⟩⟩ (by (try dsimp only); omega) ⟨rfl, rfl, trivial⟩ rfl rfl rfl
  ·
    have hi' : i = xs.length := by omega
    subst hi'
    rw [List.take_length] at hS
    refine K_exit ?_
    refine Q_then_exit ?_
    refine Q_then_exit ?_
    refine Q_block_exit ?_
    refine Q_then ?_
    refine K_seq ?_
    refine K_region ?_
    refine KV (R_move rfl) rfl ?_
    refine KV (R_assign rfl) rfl ?_
    refine K_nil ?_
    refine Q_then ?_
    refine K_ret ?_
    refine results_sel [0, 0] rfl (rs := [.tmp 4]) (vs := [_]) rfl ⟨rfl, trivial⟩ ?_
    exact ⟨rfl, hS⟩
end Go.Proofs.X

namespace Go.Proofs.X
open Go Pal Go.Proofs
attribute [local irreducible] Pal.KO Pal.KC Pal.KQ Pal.KD
theorem ty2236 : Ty Tryz.prog T2236 true 5 := .of (by kernel_rfl)
theorem fd2236_1 : fldOk Tryz.prog T2236 1 1 = true := by kernel_rfl
theorem fd2236_2 : fldOk Tryz.prog T2236 2 3 = true := by kernel_rfl
theorem z2236 : zeroOk Tryz.prog T2236 (.agg #[.int .i64 0, .int .i64 0, .int .i64 0, .int .i64 0, .int .i64 0]) := .of (by kernel_rfl)
theorem pl2220 : placesOk Tryz.prog T2220 [(0, 1), (1, 1)] := ⟨_, Tryz.underlying133, by kernel_rfl⟩
theorem pl2227 : placesOk Tryz.prog T2227 [(0, 1), (1, 1), (2, 2)] := ⟨_, Tryz.underlying169, by kernel_rfl⟩
theorem pl2236 : placesOk Tryz.prog T2236 [(0, 1), (1, 2), (3, 2)] := ⟨_, Tryz.underlying191, by kernel_rfl⟩
theorem c2236 : callable Tryz.prog F2236 = true := by kernel_rfl
theorem c2237 : callable Tryz.prog F2237 = true := by kernel_rfl
theorem ap2222 : App Tryz.prog T2222 T2227 4 48 := .of sl2222 (by kernel_rfl)
theorem ap2225 : App Tryz.prog T2225 T2220 2 16 := .of sl2225 (by kernel_rfl)
theorem mt2232 : Tryz.prog.underlying T2232 = some (.map T2220 T4) := by kernel_rfl
theorem mt2233 : Tryz.prog.underlying T2233 = some (.map T2236 T4) := by kernel_rfl
set_option maxRecDepth 8000 in
set_option maxHeartbeats 8000000 in
theorem pairs_spec (rs : List Rl) (e : Dt) (hok : DtOk e) (hn8 : e.acc.length ≤ 8) (D : Int → Int → Prop) (hr : RsOk rs e D) (ra : Option Addr) (ca : Nat) (rcells : List Value) (H : View) (rS : SlAt H (.slice ra rs.length ca) rs.length rcells) (rL : RepL (RepR H) 3 rs rcells) (v1 v2 v3 : Value) (hd : RepDt H e v1 v2 v3) :
    Sat Tryz.prog F2231 #[.slice ra rs.length ca, .agg #[v1, v2, v3]] H (fun r H' => ∃ a cp cells out, r = .slice a out.length cp ∧ SlAt H' (.slice a out.length cp) out.length cells ∧ RepL (RepS H') 4 out cells ∧ out.length ≤ 51200 ∧ (∀ s ∈ out, StepOk e D s) ∧ (∀ z (h : z < rs.length), rs[z].args = [] → ∃ s ∈ out, s.sym = rs[z].sym ∧ s.args = [])) := by
  have hul := hr.ul
  obtain ⟨ua1, uc1x, rfl⟩ := hd.r.shape
  obtain ⟨ua2, uc2x, rfl⟩ := hd.a.shape
  obtain ⟨ua3, uc3x, rfl⟩ := hd.t.shape
  refine enterO (n := 131) (args := [.slice ra rs.length ca, .agg #[.slice ua1 e.ranks.length uc1x, .slice ua2 e.acc.length uc2x, .slice ua3 e.to.length uc3x]]) Tryz.func117 rfl rfl rfl fun w0 => ?_
  refine K_seq ?_
  refine K_region ?_
  refine KA (A_box rfl) rfl fun b3 => ?_
  refine KV (R_assign rfl) rfl ?_
  refine K_nil ?_
  refine Q_then ?_
  refine K_seq ?_
  refine K_region ?_
  refine KV (R_assign rfl) rfl ?_
  refine K_nil ?_
  refine Q_then ?_
  refine K_seq ?_
  refine K_region ?_
  refine KA (A_makeMap) rfl fun b21 => ?_
  refine KV (R_assign rfl) rfl ?_
  refine K_nil ?_
  refine Q_then ?_
  refine K_seq ?_
  refine K_region ?_
  refine KA (A_makeMap) rfl fun b22 => ?_
  refine KV (R_assign rfl) rfl ?_
  refine K_nil ?_
  refine Q_then ?_
  refine K_seq ?_
  refine K_region ?_
  refine KA (A_makeMap) rfl fun b23 => ?_
  refine KV (R_assign rfl) rfl ?_
  refine K_nil ?_
  refine Q_then ?_
  refine K_seq ?_
  refine K_seq ?_
  refine K_region ?_
  refine KV (R_assign rfl) rfl ?_
  refine K_nil ?_
  refine Q_then ?_
  refine K_block ?_
  refine K_nilrow T2227 4 ?_
  refine KC_many_nil ?_
  skip
  refine K_loopD (G := Bool × View × KVs × KVs × (List (Rl × Value)) × List Rl × Value × List Value) [5, 9, 10, 11, 13, 14, 15, 16, 17, 18, 19, 20, 24, 25, 26, 27, 28, 29, 30, 31, 32, 33, 34, 35, 36, 37, 38, 39, 40, 41, 42, 43, 44, 45, 46, 47, 48, 49, 50, 51, 52, 53, 54, 55, 56, 57, 58, 59, 60, 61, 62, 63, 64, 65, 66, 67, 68, 69, 70, 71, 72, 73, 74, 75, 76, 77, 78, 79, 80, 81, 82, 83, 84, 85, 86, 87, 88, 89, 90, 91, 92, 93, 94, 95, 96, 97, 98, 99, 100, 101, 102, 103, 104, 105, 106, 107, 108, 109, 110, 111, 112, 113, 114, 115, 116, 117, 118, 119, 120, 121, 122, 123, 124, 125, 126, 127, 128, 129] (fun g => [(9, .bool g.1), (5, g.2.2.2.2.2.2.1)]) (fun hl g => (((((hl.set 0 (many (rowsFrom T3 g.2.2.2.2.1))).set 4 (blk b21 (mapObK keB g.2.2.1))).set 3 (blk b22 (mapOb (ofK g.2.2.2.2.1)))).set 2 (blk b23 (mapObK keD g.2.2.2.1))).set 1 (row g.2.2.2.2.2.2.1 T2227 4 g.2.2.2.2.2.1.length g.2.2.2.2.2.2.2))) (fun g => g.2.1) (fun g => (VLe H g.2.1) ∧ (PI rs e D g.2.2.1 g.2.2.2.1 g.2.2.2.2.1 g.2.2.2.2.2.1) ∧ (RepL (RepS g.2.1) 4 g.2.2.2.2.2.1 g.2.2.2.2.2.2.2) ∧ (∃ a c, g.2.2.2.2.2.2.1 = .slice a g.2.2.2.2.2.1.length c) ∧ (g.1 = false → ∀ z (h : z < rs.length), rs[z].args = [] → (lookI g.2.2.2.1 (pcD z 0 0 0 0)).isSome = true)) (fun g => 2 * (51200 - g.2.2.2.1.length) + (if g.1 = true then 1 else 0)) (true, H, [], [], [], [], nilS, []) ⟨VLe.refl _, PI.zero rs e D, .nil, ⟨_, _, rfl⟩, fun h => (by cases h)⟩ ⟨rfl, rfl, trivial⟩ (by simp only [args0, Nat.reduceAdd, del, memN, beqN, Nat.reduceBEq, cond_true, cond_false]; rfl) rfl rfl ?_
  rintro ⟨more, V, come, had, ps, out, w, oc⟩ ⟨hV, hP, hL, hw, hp3⟩
  dsimp only at hV hP hL hw hp3
  dsimp only [List.set, List.cons_append, List.nil_append]
  obtain ⟨wa, wc, rfl⟩ := hw
  refine K_seq ?_
  refine K_seq ?_
  refine K_region ?_
  refine KV (R_move rfl) rfl ?_
  refine K_nil ?_
  refine Q_then ?_
  refine K_ifB rfl (fun hmr => ?_) (fun hmr => ?_)
  ·
    refine K_skip ?_
    refine Q_then ?_
    refine K_block ?_
    refine K_seq ?_
    refine K_region ?_
    refine KV (R_assign rfl) rfl ?_
    refine K_nil ?_
    refine Q_then ?_
    refine K_seq ?_
    refine K_region ?_
    refine KV (R_move rfl) rfl ?_
    refine KV (R_len sl48 rfl) rfl ?_
    refine KV (R_move rfl) rfl ?_
    refine K_nil ?_
    refine Q_then ?_
    refine K_block ?_
    refine K_loopD (G := Nat × Bool × View × KVs × KVs × (List (Rl × Value)) × List Rl × Value × List Value) [5, 9, 10, 11, 13, 14, 15, 16, 17, 18, 19, 20, 27, 28, 29, 30, 31, 32, 33, 34, 35, 36, 37, 38, 39, 40, 41, 42, 43, 44, 45, 46, 47, 48, 49, 50, 51, 52, 53, 54, 55, 56, 57, 58, 59, 60, 61, 62, 63, 64, 65, 66, 67, 68, 69, 70, 71, 72, 73, 74, 75, 76, 77, 78, 79, 80, 81, 82, 83, 84, 85, 86, 87, 88, 89, 90, 91, 92, 93, 94, 95, 96, 97, 98, 99, 100, 101, 102, 103, 104, 105, 106, 107, 108, 109, 110, 111, 112, 113, 114, 115, 116, 117, 118, 119, 120, 121, 122, 123, 124, 125, 126, 127, 128, 129] (fun g => [(27, .int .i64 (g.1 : Int)), (9, .bool g.2.1), (5, g.2.2.2.2.2.2.2.1)]) (fun hl g => (((((hl.set 0 (many (rowsFrom T3 g.2.2.2.2.2.1))).set 4 (blk b21 (mapObK keB g.2.2.2.1))).set 3 (blk b22 (mapOb (ofK g.2.2.2.2.2.1)))).set 2 (blk b23 (mapObK keD g.2.2.2.2.1))).set 1 (row g.2.2.2.2.2.2.2.1 T2227 4 g.2.2.2.2.2.2.1.length g.2.2.2.2.2.2.2.2))) (fun g => g.2.2.1) (fun g => (g.1 ≤ rs.length) ∧ (VLe H g.2.2.1) ∧ (PI rs e D g.2.2.2.1 g.2.2.2.2.1 g.2.2.2.2.2.1 g.2.2.2.2.2.2.1) ∧ (RepL (RepS g.2.2.1) 4 g.2.2.2.2.2.2.1 g.2.2.2.2.2.2.2.2) ∧ (∃ a c, g.2.2.2.2.2.2.2.1 = .slice a g.2.2.2.2.2.2.1.length c) ∧ (had.length + (if g.2.1 = true then 1 else 0) ≤ g.2.2.2.2.1.length) ∧ (∀ z (h : z < rs.length), z < g.1 → rs[z].args = [] → (lookI g.2.2.2.2.1 (pcD z 0 0 0 0)).isSome = true)) (fun g => rs.length - g.1) (0, false, V, come, had, ps, out, .slice wa out.length wc, oc) ⟨Nat.zero_le _, hV, hP, hL, ⟨_, _, rfl⟩, by simp, fun z _ h => absurd h (Nat.not_lt_zero _)⟩ ⟨rfl, rfl, rfl, trivial⟩ (by simp only [args0, Nat.reduceAdd, del, memN, beqN, Nat.reduceBEq, cond_true, cond_false]; rfl) rfl rfl ?_
    rintro ⟨i, more1, V1, come1, had1, ps1, out1, w, oc⟩ ⟨hi0, hV1, hP1, hL1, hw, hmu1, hz1⟩
    dsimp only at hi0 hV1 hP1 hL1 hw hmu1 hz1
    dsimp only [List.set, List.cons_append, List.nil_append]
    obtain ⟨wa, wc, rfl⟩ := hw
    refine K_seq ?_
    refine K_region ?_
    refine KV (R_cmp rfl rfl rfl) rfl ?_
    refine K_nil ?_
    refine Q_then ?_
    refine K_seq ?_
    refine K_if rfl (fun h28 => ?_) (fun h28 => ?_)
    ·
      have hi' : i < rs.length := by omega
      obtain ⟨xb, xo, xcs, xe, xcl, xR, xA⟩ := rS.elem rL (i := i) hi' rfl
      cases xe
      obtain ⟨xa, xc, rfl, xS, xs1, xs2, xl⟩ := xR
      have rA := xA.mono hV1
      have hsy := hr.sy _ (List.getElem_mem hi')
      have har := hr.ar _ (List.getElem_mem hi')
      have hto := hr.to _ (List.getElem_mem hi')
      have hr2 : rs[i].args.length ≤ 2 := by
        have := dt_ranks hok rs[i].sym.toNat (by omega)
        omega
      have hq16a : ∀ q, (ofQ ps1 q).length ≤ 16 := fun q => Nat.le_trans (hP1.row hn8 q) (by decide)
      have hq64 : ∀ q, ∀ x ∈ ofQ ps1 q, i64ok x := fun q x hx => by have := (hP1.of q x hx).2.1; simp only [i64ok]; omega
      have hsi : i64ok rs[i].sym := xs1
      refine K_skip ?_
      refine Q_then ?_
      refine K_seq ?_
      refine K_block ?_
      refine K_seq ?_
      refine K_region ?_
      refine KV (R_move rfl) rfl ?_
      refine KV (R_indexN sl48 ty85 rfl rfl (by omega)) rfl ?_
      refine KV (R_loadH ty85 rfl (rA) rfl (fun e => by cases e) rfl) rfl ?_
      refine KA (A_alloc z85) rfl fun b11 => ?_
      refine KV (R_assign rfl) rfl ?_
      refine K_storeW ty85 0 rfl rfl rfl rfl rfl rfl rfl ?_
      refine K_nil ?_
      refine Q_then ?_
      refine K_seq ?_
      refine K_region ?_
      refine KV (R_fieldAddr 1 fd85_1 rfl) rfl ?_
      refine KV (R_loadO ty25 0 rfl rfl rfl rfl (fun _ => rfl) rfl) rfl ?_
      refine KV (R_move rfl) rfl ?_
      refine KO_sel [4, 1, 0, 0, 0, 0, 0] rfl ?_
      refine K_callO (first := []) [_, _] _ (List.Perm.refl _) c2236 rfl rfl rfl (lists_spec36 rs[i].args _ b22 ps1 V1 (xS.mono hV1) hr2 hq16a hq64) ?_
      rintro ls V2 q hv2 ⟨rfl, hLS⟩
      dsimp only [List.cons_append, List.nil_append]
      obtain ⟨la, lc, rfl⟩ := hLS.shape
      have hlsl : (listsP (ofQ ps1) rs[i].args).length ≤ 256 := by
        have h1 := listsP_len (B := 16) (f := ofQ ps1) hq16a rs[i].args rs[i].args.length (Nat.le_refl _)
        rw [List.take_length] at h1
        exact Nat.le_trans h1 (Nat.pow_le_pow_right (n := 16) (by decide) hr2 : 16 ^ rs[i].args.length ≤ 16 ^ 2)
      refine KV (R_len sl44 rfl) rfl ?_
      refine KV (R_move rfl) rfl ?_
      refine K_nil ?_
      refine Q_then ?_
      refine K_block ?_
      refine K_loopD (G := Nat × Bool × View × KVs × KVs × (List (Rl × Value)) × List Rl × Value × List Value) [5, 9, 13, 14, 15, 16, 17, 18, 19, 20, 37, 38, 39, 40, 41, 42, 43, 44, 45, 46, 47, 48, 49, 50, 51, 52, 53, 54, 55, 56, 57, 58, 59, 60, 61, 62, 63, 64, 65, 66, 67, 68, 69, 70, 71, 72, 73, 74, 75, 76, 77, 78, 79, 80, 81, 82, 83, 84, 85, 86, 87, 88, 89, 90, 91, 92, 93, 94, 95, 96, 97, 98, 99, 100, 101, 102, 103, 104, 105, 106, 107, 108, 109, 110, 111, 112, 113, 114, 115, 116, 117, 118, 119, 120, 121, 122, 123, 124, 125, 126, 127, 128] (fun g => [(37, .int .i64 (g.1 : Int)), (9, .bool g.2.1), (5, g.2.2.2.2.2.2.2.1)]) (fun hl g => (((((hl.set 1 (many (rowsFrom T3 g.2.2.2.2.2.1))).set 5 (blk b21 (mapObK keB g.2.2.2.1))).set 0 (blk b22 (mapOb (ofK g.2.2.2.2.2.1)))).set 4 (blk b23 (mapObK keD g.2.2.2.2.1))).set 3 (row g.2.2.2.2.2.2.2.1 T2227 4 g.2.2.2.2.2.2.1.length g.2.2.2.2.2.2.2.2))) (fun g => g.2.2.1) (fun g => (g.1 ≤ (listsP (ofQ ps1) rs[i].args).length) ∧ (VLe H g.2.2.1) ∧ (VLe V2 g.2.2.1) ∧ (PI rs e D g.2.2.2.1 g.2.2.2.2.1 g.2.2.2.2.2.1 g.2.2.2.2.2.2.1) ∧ (RepL (RepS g.2.2.1) 4 g.2.2.2.2.2.2.1 g.2.2.2.2.2.2.2.2) ∧ (∃ a c, g.2.2.2.2.2.2.2.1 = .slice a g.2.2.2.2.2.2.1.length c) ∧ (had.length + (if g.2.1 = true then 1 else 0) ≤ g.2.2.2.2.1.length) ∧ (∀ z (h : z < rs.length), z < i → rs[z].args = [] → (lookI g.2.2.2.2.1 (pcD z 0 0 0 0)).isSome = true) ∧ (0 < g.1 → rs[i].args = [] → (lookI g.2.2.2.2.1 (pcD i 0 0 0 0)).isSome = true)) (fun g => (listsP (ofQ ps1) rs[i].args).length - g.1) (0, more1, V2, come1, had1, ps1, out1, .slice wa out1.length wc, oc) ⟨Nat.zero_le _, hV1.trans hv2, VLe.refl _, hP1, hL1.imp fun x cs h => h.mono hv2, ⟨_, _, rfl⟩, hmu1, hz1, fun h => absurd h (Nat.lt_irrefl _)⟩ ⟨rfl, rfl, rfl, trivial⟩ (by simp only [args0, Nat.reduceAdd, del, memN, beqN, Nat.reduceBEq, cond_true, cond_false]; rfl) rfl rfl ?_
      rintro ⟨j, more2, Vj, come2, had2, ps2, out2, w, oc⟩ ⟨hj0, hV2, hVV, hP2, hL2, hw, hmu2, hz2, hz2j⟩
      dsimp only at hj0 hV2 hVV hP2 hL2 hw hmu2 hz2 hz2j
      dsimp only [List.set, List.cons_append, List.nil_append]
      obtain ⟨wa, wc, rfl⟩ := hw
      refine K_seq ?_
      refine K_region ?_
      refine KV (R_cmp rfl rfl rfl) rfl ?_
      refine K_nil ?_
      refine Q_then ?_
      refine K_seq ?_
      refine K_if rfl (fun h38 => ?_) (fun h38 => ?_)
      ·
        have hj' : j < (listsP (ofQ ps1) rs[i].args).length := by omega
        obtain ⟨lb, lo, ea, ecp, hle, lA, lS⟩ := (hLS.mono hVV).get hj'
        cases hle
        have hml := mem_listsP (f := ofQ ps1) (xs := rs[i].args) (i := rs[i].args.length) (Nat.le_refl _) (by rw [List.take_length]; exact List.getElem_mem hj')
        obtain ⟨hll, hmj⟩ := hml
        have hlx : ∀ x ∈ (listsP (ofQ ps1) rs[i].args)[j], 0 ≤ x ∧ x < (e.acc.length : Int) := fun x hx => by
          obtain ⟨y, hy, rfl⟩ := List.getElem_of_mem hx
          exact (hP1.of _ _ (hmj y hy (by omega))).2.1
        have hlD : ∀ y (h : y < (listsP (ofQ ps1) rs[i].args)[j].length) (h2 : y < rs[i].args.length), D rs[i].args[y] (listsP (ofQ ps1) rs[i].args)[j][y] := fun y h h2 => (hP1.of _ _ (hmj y h h2)).2.2.1
        have hl8 : ∀ x ∈ (listsP (ofQ ps1) rs[i].args)[j], 0 ≤ x ∧ x < 8 := fun x hx => by have := hlx x hx; omega
        have hgo := kcode_good (i := i) (by omega) har hl8
        have hat := (hok.at_ok (s := rs[i].sym) (l := (listsP (ofQ ps1) rs[i].args)[j]) ⟨hsy.1, hsy.2.1⟩ (by rw [hll]; exact hsy.2.2) hlx).2.2
        have hq16 : 0 ≤ (atM e rs[i].sym (listsP (ofQ ps1) rs[i].args)[j]) ∧ (atM e rs[i].sym (listsP (ofQ ps1) rs[i].args)[j]) < 16 := by omega
        have hgc := pcB_ok (p := rs[i].to) (q := (atM e rs[i].sym (listsP (ofQ ps1) rs[i].args)[j])) (by omega) (by omega)
        have hol := hP2.ln
        have hhl := hP2.len hr
        have hqr := hP2.row hn8 rs[i].to
        refine K_skip ?_
        refine Q_then ?_
        refine K_seq ?_
        refine K_block ?_
        refine K_seq ?_
        refine K_region ?_
        refine KV (R_indexN sl44 ty25 rfl rfl (by omega)) rfl ?_
        refine KV (R_loadH ty25 rfl (lA) rfl (fun _ => rfl) rfl) rfl ?_
        refine KV (R_assign rfl) rfl ?_
        refine K_nil ?_
        refine Q_then ?_
        refine K_seq ?_
        refine K_region ?_
        refine KV (R_move rfl) rfl ?_
        refine KV (R_build z2236 pl2236 rfl rfl) rfl ?_
        refine KA (A_alloc z2236) rfl fun b14 => ?_
        refine K_storeW ty2236 0 rfl rfl rfl rfl rfl rfl rfl ?_
        refine K_nil ?_
        refine Q_then ?_
        refine K_seq ?_
        refine K_seq ?_
        refine K_region ?_
        refine KV (R_move rfl) rfl ?_
        refine KV (R_len sl25 rfl) rfl ?_
        refine KV (R_move rfl) rfl ?_
        refine K_nil ?_
        refine Q_then ?_
        refine K_block ?_
        refine K_loopD (G := Nat) [15, 16, 45, 46, 47, 48, 49, 50, 51, 52, 53, 54, 55, 56, 57, 58, 59, 60, 61, 62, 63, 64, 65, 66, 67, 68] (fun g => [(45, .int .i64 (g : Int))]) (fun hl g => (hl.set 0 (blk b14 (.cells (dC i rs[i].args (listsP (ofQ ps1) rs[i].args)[j] g) T2236 (0, 0))))) (fun g => Vj) (fun g => (g ≤ (listsP (ofQ ps1) rs[i].args)[j].length)) (fun g => (listsP (ofQ ps1) rs[i].args)[j].length - g) 0 (Nat.zero_le _) ⟨rfl, trivial⟩ (by simp only [args0, Nat.reduceAdd, del, memN, beqN, Nat.reduceBEq, cond_true, cond_false]; rfl) rfl rfl ?_
        rintro k hk0
        try dsimp only at hk0
        dsimp only [List.set, List.cons_append, List.nil_append]
        refine K_seq ?_
        refine K_region ?_
        refine KV (R_cmp rfl rfl rfl) rfl ?_
        refine K_nil ?_
        refine Q_then ?_
        refine K_seq ?_
        refine K_if rfl (fun h46 => ?_) (fun h46 => ?_)
        ·
          have hk' : k < (listsP (ofQ ps1) rs[i].args)[j].length := by omega
          obtain ⟨eb, eo, hee, eA⟩ := lS.get hk'
          cases hee
          have hek := hl8 _ (List.getElem_mem hk')
          rw [show (listsP (ofQ ps1) rs[i].args)[j][k] = (listsP (ofQ ps1) rs[i].args)[j].getD k 0 by simp [List.getD, hk']] at eA hek
          refine K_skip ?_
          refine Q_then ?_
          refine K_seq ?_
          refine K_block ?_
          refine K_seq ?_
          refine K_region ?_
          refine KV (R_move rfl) rfl ?_
          refine KV (R_indexN sl25 ty3 rfl rfl (by omega)) rfl ?_
          refine KV (R_loadH ty3 rfl (eA) rfl (fun _ => rfl) rfl) rfl ?_
          refine KV (R_assign rfl) rfl ?_
          refine KV (R_assign rfl) rfl ?_
          refine K_nil ?_
          refine Q_then ?_
          refine K_seq ?_
          refine K_region ?_
          refine KV (R_move rfl) rfl ?_
          refine KV (R_cmp rfl rfl rfl) rfl ?_
          refine K_nil ?_
          refine Q_then ?_
          refine K_if rfl (fun h51 => ?_) (fun h51 => ?_)
          ·
            obtain rfl : k = 0 := by omega
            obtain ⟨fb, fo, hfe, a0A⟩ := (xS.mono hV2).get (i := 0) (by omega)
            cases hfe
            rw [show rs[i].args[0] = rs[i].args.getD 0 0 by simp [List.getD, show 0 < rs[i].args.length by omega]] at a0A
            refine K_region ?_
            refine KV (R_fieldAddr 1 fd85_1 rfl) rfl ?_
            refine KV (R_loadO ty25 3 rfl rfl rfl rfl (fun _ => rfl) rfl) rfl ?_
            refine KV (R_index sl25 ty3 rfl rfl ⟨by decide, by omega⟩) rfl ?_
            refine KV (R_loadH ty3 rfl (a0A) rfl (fun _ => rfl) rfl) rfl ?_
            refine KV (R_move rfl) rfl ?_
            refine KV (R_add rfl rfl (by omega)) rfl ?_
            refine KV (R_build z2220 pl2220 rfl rfl) rfl ?_
            refine KV (R_fieldAddr 1 fd2236_1 rfl) rfl ?_
            refine K_storeE ty2220 0 rfl rfl rfl rfl (show 1 + 2 ≤ 5 from by decide) rfl (dC_put0 rfl rfl) ?_
            refine K_nil ?_
            refine Q_block ?_
            refine Q_then ?_
            refine K_region ?_
            refine KV (R_add rfl rfl (by omega)) rfl ?_
            refine KV (R_move rfl) rfl ?_
            refine K_nil ?_
            refine Q_nextD (0 + 1) hk' (by (try dsimp only); omega) ⟨rfl, trivial⟩ rfl rfl rfl
          ·
            obtain rfl : k = 1 := by omega
            obtain ⟨fb, fo, hfe, a1A⟩ := (xS.mono hV2).get (i := 1) (by omega)
            cases hfe
            rw [show rs[i].args[1] = rs[i].args.getD 1 0 by simp [List.getD, show 1 < rs[i].args.length by omega]] at a1A
            refine K_region ?_
            refine KV (R_fieldAddr 1 fd85_1 rfl) rfl ?_
            refine KV (R_loadO ty25 3 rfl rfl rfl rfl (fun _ => rfl) rfl) rfl ?_
            refine KV (R_index sl25 ty3 rfl rfl ⟨by decide, by omega⟩) rfl ?_
            refine KV (R_loadH ty3 rfl (a1A) rfl (fun _ => rfl) rfl) rfl ?_
            refine KV (R_move rfl) rfl ?_
            refine KV (R_add rfl rfl (by omega)) rfl ?_
            refine KV (R_build z2220 pl2220 rfl rfl) rfl ?_
            refine KV (R_fieldAddr 3 fd2236_2 rfl) rfl ?_
            refine K_storeE ty2220 0 rfl rfl rfl rfl (show 3 + 2 ≤ 5 from by decide) rfl (dC_put1 rfl rfl) ?_
            refine K_nil ?_
            refine Q_block ?_
            refine Q_then ?_
            refine K_region ?_
            refine KV (R_add rfl rfl (by omega)) rfl ?_
            refine KV (R_move rfl) rfl ?_
            refine K_nil ?_
            refine Q_nextD (1 + 1) hk' (by (try dsimp only); omega) ⟨rfl, trivial⟩ rfl rfl rfl
        ·
          have hk' : k = (listsP (ofQ ps1) rs[i].args)[j].length := by omega
          subst hk'
          refine K_exit ?_
          refine Q_then_exit ?_
          refine Q_then_exit ?_
          refine Q_block_exit ?_
          refine Q_then ?_
          refine K_seq ?_
          refine K_seq ?_
          refine K_region ?_
          refine KV (R_move rfl) rfl ?_
          refine KV (R_loadW ty2236 0 rfl rfl rfl rfl) rfl ?_
          refine KV (R_lookVK mt2233 keyD hgo hP2.ha z4 rfl (congrArg some (dC_key har hl8)) (MapAtK.at 5 rfl) (bool_look hP2.hv _)) rfl ?_
          refine K_nil ?_
          refine Q_then ?_
          refine K_ifB rfl (fun h71 => ?_) (fun h71 => ?_)
          ·
            refine K_exit ?_
            refine Q_then_exit ?_
            refine Q_block_exit ?_
            refine Q_then ?_
            refine K_region ?_
            refine KV (R_add rfl rfl (by omega)) rfl ?_
            refine KV (R_move rfl) rfl ?_
            refine K_nil ?_
            refine KQ_sel [1, 1, 1, 1, 1, 1, 1] rfl ?_
            refine Q_nextD (j + 1, more2, Vj, come2, had2, ps2, out2, .slice wa out2.length wc, oc) ⟨hj', hV2, hVV, hP2, hL2, ⟨_, _, rfl⟩, hmu2, hz2, fun _ he => by rw [← kcode_empty i he hll]; exact h71⟩ (by (try dsimp only); omega) ⟨rfl, rfl, rfl, trivial⟩ rfl rfl rfl
          ·
            have hnew := isSome_false h71
            have hPn := hP2.had_new hr hok hn8 hi' hll hlx hlD hnew
            refine K_skip ?_
            refine Q_then ?_
            refine K_seq ?_
            refine K_region ?_
            refine KV (R_move rfl) rfl ?_
            refine KV (R_loadW ty2236 0 rfl rfl rfl rfl) rfl ?_
            refine K_mapSetK mt2233 keyD hgo hP2.ha 5 rfl (congrArg some (dC_key har hl8)) rfl rfl ?_
            refine KV (R_assign rfl) rfl ?_
            refine K_nil ?_
            refine Q_then ?_
            refine K_seq ?_
            refine K_region ?_
            refine KV (R_loadW ty54 7 rfl rfl rfl rfl) rfl ?_
            refine KV (R_fieldAddr 0 fd85_0 rfl) rfl ?_
            refine KV (R_loadO ty3 3 rfl rfl rfl rfl (fun _ => rfl) rfl) rfl ?_
            refine KV (R_move rfl) rfl ?_
            refine K_call c2237 rfl rfl (pat_spec e hok rs[i].sym (listsP (ofQ ps1) rs[i].args)[j] _ _ _ _ Vj (hd.mono hV2) lS ⟨hsy.1, hsy.2.1⟩ (by rw [hll]; exact hsy.2.2) hlx) ?_
            rintro _ V3 hv3 rfl
            refine KV (R_assign rfl) rfl ?_
            refine K_nil ?_
            refine Q_then ?_
            refine K_seq ?_
            refine K_region ?_
            refine KV (R_fieldAddr 0 fd85_0 rfl) rfl ?_
            refine KV (R_loadO ty3 3 rfl rfl rfl rfl (fun _ => rfl) rfl) rfl ?_
            refine KV (R_fieldAddr 2 fd85_2 rfl) rfl ?_
            refine KV (R_loadO ty3 3 rfl rfl rfl rfl (fun _ => rfl) rfl) rfl ?_
            refine KV (R_move rfl) rfl ?_
            refine KV (R_build z2220 pl2220 rfl rfl) rfl ?_
            refine KV (R_build z2227 pl2227 rfl rfl) rfl ?_
            refine KA (A_alloc z2227) rfl fun b18 => ?_
            refine K_storeW ty2227 0 rfl rfl rfl rfl rfl rfl rfl ?_
            refine K_nil ?_
            refine Q_then ?_
            refine K_seq ?_
            refine K_seq ?_
            refine K_region ?_
            refine KV (R_move rfl) rfl ?_
            refine KV (R_len sl25 rfl) rfl ?_
            refine KV (R_move rfl) rfl ?_
            refine K_nil ?_
            refine Q_then ?_
            refine K_block ?_
            refine K_nilrow T2220 2 ?_
            refine K_loopD (G := Nat × Value × List Value) [19, 20, 88, 89, 90, 91, 92, 93, 94, 95, 96, 97, 98, 99, 100, 101, 102, 103, 104, 105] (fun g => [(88, .int .i64 (g.1 : Int))]) (fun hl g => ((hl.set 0 (row g.2.1 T2220 2 g.1 g.2.2)).set 1 (blk b18 (.cells #[.int .i64 rs[i].sym, g.2.1, .int .i64 rs[i].to, .int .i64 (atM e rs[i].sym (listsP (ofQ ps1) rs[i].args)[j])] T2227 (0, 0))))) (fun g => V3) (fun g => (g.1 ≤ (listsP (ofQ ps1) rs[i].args)[j].length) ∧ (RepL RPb 2 ((codesL rs[i].args (listsP (ofQ ps1) rs[i].args)[j]).take g.1) g.2.2) ∧ (∃ a c, g.2.1 = .slice a g.1 c)) (fun g => (listsP (ofQ ps1) rs[i].args)[j].length - g.1) (0, nilS, []) ⟨Nat.zero_le _, .nil, _, _, rfl⟩ ⟨rfl, trivial⟩ (by simp only [args0, Nat.reduceAdd, del, memN, beqN, Nat.reduceBEq, cond_true, cond_false]; rfl) rfl rfl ?_
            rintro ⟨k, wf, fc⟩ ⟨hk0, hF, hwf⟩
            dsimp only at hk0 hF hwf
            dsimp only [List.set, List.cons_append, List.nil_append]
            obtain ⟨fa, fcp, rfl⟩ := hwf
            refine K_seq ?_
            refine K_region ?_
            refine KV (R_cmp rfl rfl rfl) rfl ?_
            refine K_nil ?_
            refine Q_then ?_
            refine K_seq ?_
            refine K_if rfl (fun h89 => ?_) (fun h89 => ?_)
            ·
              have hk' : k < (listsP (ofQ ps1) rs[i].args)[j].length := by omega
              have hkc : k < (codesL rs[i].args (listsP (ofQ ps1) rs[i].args)[j]).length := by rw [pcodes_len hll]; omega
              obtain ⟨eb, eo, hee, eA⟩ := lS.get hk'
              cases hee
              obtain ⟨fb, fo, hfe, akA⟩ := (xS.mono (hV2.trans hv3)).get (i := k) (by omega)
              cases hfe
              have hek := hl8 _ (List.getElem_mem hk')
              refine K_skip ?_
              refine Q_then ?_
              refine K_seq ?_
              refine K_block ?_
              refine K_seq ?_
              refine K_region ?_
              refine KV (R_move rfl) rfl ?_
              refine KV (R_indexN sl25 ty3 rfl rfl (by omega)) rfl ?_
              refine KV (R_loadH ty3 rfl (eA.mono hv3) rfl (fun _ => rfl) rfl) rfl ?_
              refine KV (R_assign rfl) rfl ?_
              refine KV (R_assign rfl) rfl ?_
              refine K_nil ?_
              refine Q_then ?_
              refine K_regionD (fin := true) (R := [0, 1, 2, 3, 4, 5, 6, 7, 8, 9, 10, 11, 12]) (by kernel_rfl) mixed (.cons _ (.cons_cons _ (.cons_cons _ (.cons_cons _ (.cons_cons _ (.cons_cons _ (.cons_cons _ (.cons_cons _ (.cons_cons _ (.cons_cons _ (List.nil_sublist _))))))))))) ?_
              refine D_val rfl rfl rfl (R_fieldAddr 1 fd2227_1 rfl) ?_
              refine D_val rfl rfl rfl (R_loadO ty2225 0 rfl rfl rfl rfl (fun _ => rfl) rfl) ?_
              refine D_val rfl rfl rfl (R_fieldAddr 1 fd85_1 rfl) ?_
              refine D_val rfl rfl rfl (R_loadO ty25 4 rfl rfl rfl rfl (fun _ => rfl) rfl) ?_
              refine D_val rfl rfl rfl (R_move rfl) ?_
              refine D_val rfl rfl rfl (R_indexN sl25 ty3 rfl rfl (by omega)) ?_
              refine D_val rfl rfl rfl (R_loadH ty3 rfl (akA) rfl (fun _ => rfl) rfl) ?_
              refine D_val rfl rfl rfl (R_move rfl) ?_
              refine D_val rfl rfl rfl (R_build z2220 pl2220 rfl rfl) ?_
              refine D_alloc rfl rfl rfl (A_buildSlice (vs := [.agg #[.int .i64 rs[i].args[k], .int .i64 (listsP (ofQ ps1) rs[i].args)[j][k]]]) sl2225 ty2220 z2220 rfl rfl (by simp [Value.cells]) (by simp) rfl (by decide)) fun b102 => ?_
              refine D_append1 0 ap2225 rfl rfl rfl rfl rfl rfl ⟨⟨0, rfl⟩, ⟨1, rfl⟩, ⟨2, rfl⟩, ⟨3, rfl⟩, ⟨4, rfl⟩, ⟨5, rfl⟩, ⟨6, rfl⟩, ⟨7, rfl⟩, ⟨8, rfl⟩, trivial⟩ rfl rfl ⟨by omega, by omega⟩ fun a103 k103 hn103 => ?_
              refine D_val rfl rfl rfl (R_fieldAddr 1 fd2227_1 rfl) ?_
              refine D_lastStore ty2225 1 rfl rfl rfl rfl rfl rfl rfl rfl ?_
              refine Q_block ?_
              refine Q_then ?_
              refine K_region ?_
              refine KV (R_add rfl rfl (by omega)) rfl ?_
              refine KV (R_move rfl) rfl ?_
              refine K_nil ?_
              refine Q_nextD (k + 1, .slice a103 (k + 1) k103, fc ++ [.int .i64 rs[i].args[k], .int .i64 (listsP (ofQ ps1) rs[i].args)[j][k]]) ⟨hk', by rw [List.take_succ_eq_append_getElem hkc]; exact hF.snoc (rpb_of hkc (by omega) hk' (by omega)) rfl, _, _, rfl⟩ (by (try dsimp only); omega) ⟨rfl, trivial⟩ rfl rfl rfl
            ·
              have hk' : k = (listsP (ofQ ps1) rs[i].args)[j].length := by omega
              subst hk'
              rw [List.take_of_length_le (by rw [pcodes_len hll]; omega)] at hF
              refine K_exit ?_
              refine Q_then_exit ?_
              refine Q_then_exit ?_
              refine Q_block_exit ?_
              refine Q_then ?_
              refine K_seq ?_
              refine KC_front 0 rfl ?_
              try dsimp only [List.eraseIdx]
              refine KC_pubrowF fun V4 hv4 hfrow _ => ?_
              skip
              have hRS := repS_of (to := rs[i].to) (qq := (atM e rs[i].sym (listsP (ofQ ps1) rs[i].args)[j])) hll rfl hq16 hsi (V := V4) hfrow.sl hF
              refine K_region ?_
              refine KV (R_move rfl) rfl ?_
              refine KV (R_loadW ty2227 0 rfl rfl rfl rfl) rfl ?_
              refine KA (A_buildSlice (vs := [.agg #[.int .i64 rs[i].sym, .slice fa (listsP (ofQ ps1) rs[i].args)[j].length fcp, .int .i64 rs[i].to, .int .i64 (atM e rs[i].sym (listsP (ofQ ps1) rs[i].args)[j])]]) sl2222 ty2227 z2227 rfl rfl (by simp [Value.cells]) (by simp) rfl (by decide)) rfl fun b108 => ?_
              refine K_append1 5 ap2222 rfl rfl rfl rfl rfl rfl ⟨by omega, by omega⟩ rfl fun a109 k109 hn109 => ?_
              refine KV (R_assign rfl) rfl ?_
              refine K_nil ?_
              refine Q_then ?_
              refine K_seq ?_
              refine K_region ?_
              refine KV (R_move rfl) rfl ?_
              refine KV (R_fieldAddr 2 fd2227_2 rfl) rfl ?_
              refine KV (R_loadO ty2220 1 rfl rfl rfl rfl (fun e => by cases e) rfl) rfl ?_
              refine KV (R_lookVK mt2232 keyB hgc hP2.co z4 rfl (congrArg some (keB_pair hq16).symm) (MapAtK.at 7 rfl) (bool_look hP2.cv _)) rfl ?_
              refine KV (R_not rfl) rfl ?_
              refine K_nil ?_
              refine Q_then ?_
              refine K_ifB rfl (fun h114 => ?_) (fun h114 => ?_)
              ·
                have hnc := isSome_false (by simpa using h114)
                refine K_seq ?_
                refine K_region ?_
                refine KV (R_move rfl) rfl ?_
                refine KV (R_fieldAddr 2 fd2227_2 rfl) rfl ?_
                refine KV (R_loadO ty2220 1 rfl rfl rfl rfl (fun e => by cases e) rfl) rfl ?_
                refine K_mapSetK mt2232 keyB hgc hP2.co 7 rfl (congrArg some (keB_pair hq16).symm) rfl rfl ?_
                refine K_nil ?_
                refine Q_then ?_
                rcases hfo : findI rs[i].to (ofK ps2) 0 with _ | ⟨io, uo⟩
                ·
                  refine K_nilrow T3 1 ?_
                  have hlv : (lookI (ofK ps2) rs[i].to).getD (.slice none 0 0) = nilS := by unfold lookI; rw [hfo]; rfl
                  have he0 : ofQ ps2 rs[i].to = [] := by unfold ofQ; rw [hfo]
                  refine K_regionD (fin := true) (R := [0, 1, 2, 3, 4, 5, 6, 7, 8, 9, 10]) (by kernel_rfl) mixed (.cons _ (.cons_cons _ (.cons_cons _ (.cons_cons _ (.cons_cons _ (.cons_cons _ (.cons_cons _ (.cons_cons _ (.cons_cons _ (.cons_cons _ (List.nil_sublist _))))))))))) ?_
                  refine D_val rfl rfl rfl (R_move rfl) ?_
                  refine D_val rfl rfl rfl (R_fieldAddr 2 fd85_2 rfl) ?_
                  refine D_val rfl rfl rfl (R_loadO ty3 5 rfl rfl rfl rfl (fun _ => rfl) rfl) ?_
                  refine D_val rfl rfl rfl (R_move rfl) ?_
                  refine D_val rfl rfl rfl (R_fieldAddr 2 fd85_2 rfl) ?_
                  refine D_val rfl rfl rfl (R_loadO ty3 5 rfl rfl rfl rfl (fun _ => rfl) rfl) ?_
                  refine D_val rfl rfl rfl (R_lookV mt2036 (by kernel_rfl) z25 rfl rfl (MapAt.at 3 rfl) hlv) ?_
                  refine D_val rfl rfl rfl (R_move rfl) ?_
                  refine D_alloc rfl rfl rfl (A_buildSlice (vs := [.int .i64 (atM e rs[i].sym (listsP (ofQ ps1) rs[i].args)[j])]) sl25 ty3 z3 rfl rfl (by simp [Value.cells]) (by simp) rfl (by decide)) fun b126 => ?_
                  refine D_append1 0 ap25 rfl rfl rfl rfl rfl rfl ⟨⟨0, rfl⟩, ⟨1, rfl⟩, ⟨2, rfl⟩, ⟨3, rfl⟩, ⟨4, rfl⟩, ⟨5, rfl⟩, ⟨6, rfl⟩, ⟨7, rfl⟩, ⟨8, rfl⟩, trivial⟩ rfl rfl ⟨by omega, by omega⟩ fun a127 k127 hn127 => ?_
                  refine D_lastSet mt2036 (by kernel_rfl) 4 rfl rfl rfl rfl rfl rfl ?_
                  refine KQ_front 5 rfl ?_
                  try dsimp only [List.eraseIdx]
                  refine KQ_front 1 rfl ?_
                  try dsimp only [List.eraseIdx]
                  refine KQ_many_snoc ?_
                  skip
                  refine Q_block ?_
                  refine Q_then ?_
                  refine K_region ?_
                  refine KV (R_add rfl rfl (by omega)) rfl ?_
                  refine KV (R_move rfl) rfl ?_
                  refine K_nil ?_
                  refine KQ_sel [4, 0, 3, 0, 2, 2, 2] rfl ?_
                  have hPo := hPn.come_new hn8 (ps' := ps2 ++ [(⟨rs[i].to, ofQ ps2 rs[i].to ++ [(atM e rs[i].sym (listsP (ofQ ps1) rs[i].args)[j])], 0⟩, .slice a127 (0 + 1) k127)]) hto hat (hr.cl _ (List.getElem_mem hi') (listsP (ofQ ps1) rs[i].args)[j] hll hlx hlD) hnc (by rw [ofK_new hfo]; exact setI_keys _ _ hPn.kn) (ofQ_new hfo)
                  refine Q_nextD (j + 1, true, V4, setI come2 (pcB rs[i].to (atM e rs[i].sym (listsP (ofQ ps1) rs[i].args)[j])) (.bool true), setI had2 (kcode i rs[i].args (listsP (ofQ ps1) rs[i].args)[j]) (.bool true), ps2 ++ [(⟨rs[i].to, ofQ ps2 rs[i].to ++ [(atM e rs[i].sym (listsP (ofQ ps1) rs[i].args)[j])], 0⟩, .slice a127 (0 + 1) k127)], out2 ++ [⟨rs[i].sym, codesL rs[i].args (listsP (ofQ ps1) rs[i].args)[j], pcB rs[i].to (atM e rs[i].sym (listsP (ofQ ps1) rs[i].args)[j])⟩], .slice a109 (out2.length + 1) k109, oc ++ [.int .i64 rs[i].sym, .slice fa (listsP (ofQ ps1) rs[i].args)[j].length fcp, .int .i64 rs[i].to, .int .i64 (atM e rs[i].sym (listsP (ofQ ps1) rs[i].args)[j])]) ⟨hj', hV2.trans (hv3.trans hv4), hVV.trans (hv3.trans hv4), hPo, (hL2.imp fun x cs h => h.mono (hv3.trans hv4)).snoc hRS rfl, ⟨_, _, by rw [List.length_append]; rfl⟩, by rw [setI_len hnew, if_pos rfl]; omega, fun z h1 h2 h3 => look_mono hP2.ha.nd (hz2 z h1 h2 h3), fun _ he => by rw [← kcode_empty i he hll]; exact look_self hP2.ha.nd⟩ (by (try dsimp only); omega) ⟨rfl, rfl, rfl, trivial⟩ rfl (by (try dsimp only [List.set]); rw [ofK_new hfo, rowsFrom_snoc, he0, @List.length_append _ out2]; first | done | rfl) rfl
                ·
                  obtain ⟨hio, ho1, ho2, ho3⟩ := old_is hfo
                  refine KC_front 4 rfl ?_
                  try dsimp only [List.eraseIdx]
                  refine KC_takeAt hio ?_
                  refine KC_shape 0 rfl ?_
                  rintro ⟨sa, sc, hse⟩
                  rw [hse, ← ho3]
                  have hlv : (lookI (ofK ps2) rs[i].to).getD (.slice none 0 0) = .slice sa (ofQ ps2 rs[i].to).length sc := by unfold lookI; rw [hfo, ho3]; show uo = _; rw [← ho2, hse]
                  refine K_regionD (fin := true) (R := [0, 1, 2, 3, 4, 5, 6, 7, 8, 9, 10]) (by kernel_rfl) mixed (.cons _ (.cons_cons _ (.cons_cons _ (.cons_cons _ (.cons_cons _ (.cons_cons _ (.cons_cons _ (.cons_cons _ (.cons_cons _ (.cons_cons _ (List.nil_sublist _))))))))))) ?_
                  refine D_val rfl rfl rfl (R_move rfl) ?_
                  refine D_val rfl rfl rfl (R_fieldAddr 2 fd85_2 rfl) ?_
                  refine D_val rfl rfl rfl (R_loadO ty3 5 rfl rfl rfl rfl (fun _ => rfl) rfl) ?_
                  refine D_val rfl rfl rfl (R_move rfl) ?_
                  refine D_val rfl rfl rfl (R_fieldAddr 2 fd85_2 rfl) ?_
                  refine D_val rfl rfl rfl (R_loadO ty3 5 rfl rfl rfl rfl (fun _ => rfl) rfl) ?_
                  refine D_val rfl rfl rfl (R_lookV mt2036 (by kernel_rfl) z25 rfl rfl (MapAt.at 4 rfl) hlv) ?_
                  refine D_val rfl rfl rfl (R_move rfl) ?_
                  refine D_alloc rfl rfl rfl (A_buildSlice (vs := [.int .i64 (atM e rs[i].sym (listsP (ofQ ps1) rs[i].args)[j])]) sl25 ty3 z3 rfl rfl (by simp [Value.cells]) (by simp) rfl (by decide)) fun b126 => ?_
                  refine D_append1 0 ap25 rfl rfl rfl rfl rfl rfl ⟨⟨0, rfl⟩, ⟨1, rfl⟩, ⟨2, rfl⟩, ⟨3, rfl⟩, ⟨4, rfl⟩, ⟨5, rfl⟩, ⟨6, rfl⟩, ⟨7, rfl⟩, ⟨8, rfl⟩, trivial⟩ rfl rfl ⟨by omega, by omega⟩ fun a127 k127 hn127 => ?_
                  refine D_lastSet mt2036 (by kernel_rfl) 5 rfl rfl rfl rfl rfl rfl ?_
                  refine KQ_front 1 rfl ?_
                  try dsimp only [List.eraseIdx]
                  refine KQ_front 1 rfl ?_
                  try dsimp only [List.eraseIdx]
                  refine KQ_putrowE (ps2.take io) (ps2.drop (io + 1)) (⟨rs[i].to, ofQ ps2 rs[i].to ++ [(atM e rs[i].sym (listsP (ofQ ps1) rs[i].args)[j])], 0⟩, .slice a127 ((ofQ ps2 rs[i].to).length + 1) k127) (show row (.slice a127 ((ofQ ps2 rs[i].to).length + 1) k127) T3 1 ((ofQ ps2 rs[i].to).length + 1) (ints (ofQ ps2 rs[i].to) ++ [.int .i64 (atM e rs[i].sym (listsP (ofQ ps1) rs[i].args)[j])]) = row (.slice a127 ((ofQ ps2 rs[i].to).length + 1) k127) T3 1 (ofQ ps2 rs[i].to ++ [(atM e rs[i].sym (listsP (ofQ ps1) rs[i].args)[j])]).length (ints (ofQ ps2 rs[i].to ++ [(atM e rs[i].sym (listsP (ofQ ps1) rs[i].args)[j])])) by rw [List.length_append, ints_snoc]; rfl) ?_
                  skip
                  refine Q_block ?_
                  refine Q_then ?_
                  refine K_region ?_
                  refine KV (R_add rfl rfl (by omega)) rfl ?_
                  refine KV (R_move rfl) rfl ?_
                  refine K_nil ?_
                  refine KQ_sel [4, 0, 3, 0, 2, 2, 2] rfl ?_
                  have hPo := hPn.come_new hn8 (ps' := ps2.take io ++ (⟨rs[i].to, ofQ ps2 rs[i].to ++ [(atM e rs[i].sym (listsP (ofQ ps1) rs[i].args)[j])], 0⟩, .slice a127 ((ofQ ps2 rs[i].to).length + 1) k127) :: ps2.drop (io + 1)) hto hat (hr.cl _ (List.getElem_mem hi') (listsP (ofQ ps1) rs[i].args)[j] hll hlx hlD) hnc (by rw [ofK_old hfo]; exact setI_keys _ _ hPn.kn) (ofQ_old hfo)
                  refine Q_nextD (j + 1, true, V4, setI come2 (pcB rs[i].to (atM e rs[i].sym (listsP (ofQ ps1) rs[i].args)[j])) (.bool true), setI had2 (kcode i rs[i].args (listsP (ofQ ps1) rs[i].args)[j]) (.bool true), ps2.take io ++ (⟨rs[i].to, ofQ ps2 rs[i].to ++ [(atM e rs[i].sym (listsP (ofQ ps1) rs[i].args)[j])], 0⟩, .slice a127 ((ofQ ps2 rs[i].to).length + 1) k127) :: ps2.drop (io + 1), out2 ++ [⟨rs[i].sym, codesL rs[i].args (listsP (ofQ ps1) rs[i].args)[j], pcB rs[i].to (atM e rs[i].sym (listsP (ofQ ps1) rs[i].args)[j])⟩], .slice a109 (out2.length + 1) k109, oc ++ [.int .i64 rs[i].sym, .slice fa (listsP (ofQ ps1) rs[i].args)[j].length fcp, .int .i64 rs[i].to, .int .i64 (atM e rs[i].sym (listsP (ofQ ps1) rs[i].args)[j])]) ⟨hj', hV2.trans (hv3.trans hv4), hVV.trans (hv3.trans hv4), hPo, (hL2.imp fun x cs h => h.mono (hv3.trans hv4)).snoc hRS rfl, ⟨_, _, by rw [List.length_append]; rfl⟩, by rw [setI_len hnew, if_pos rfl]; omega, fun z h1 h2 h3 => look_mono hP2.ha.nd (hz2 z h1 h2 h3), fun _ he => by rw [← kcode_empty i he hll]; exact look_self hP2.ha.nd⟩ (by (try dsimp only); omega) ⟨rfl, rfl, rfl, trivial⟩ rfl (by (try dsimp only [List.set]); rw [ofK_old hfo, @List.length_append _ out2]; first | done | rfl) rfl
              ·
                refine K_skip ?_
                refine Q_block ?_
                refine Q_then ?_
                refine K_region ?_
                refine KV (R_add rfl rfl (by omega)) rfl ?_
                refine KV (R_move rfl) rfl ?_
                refine K_nil ?_
                refine KQ_sel [3, 3, 3, 0, 2, 2, 2] rfl ?_
                refine Q_nextD (j + 1, true, V4, come2, setI had2 (kcode i rs[i].args (listsP (ofQ ps1) rs[i].args)[j]) (.bool true), ps2, out2 ++ [⟨rs[i].sym, codesL rs[i].args (listsP (ofQ ps1) rs[i].args)[j], pcB rs[i].to (atM e rs[i].sym (listsP (ofQ ps1) rs[i].args)[j])⟩], .slice a109 (out2.length + 1) k109, oc ++ [.int .i64 rs[i].sym, .slice fa (listsP (ofQ ps1) rs[i].args)[j].length fcp, .int .i64 rs[i].to, .int .i64 (atM e rs[i].sym (listsP (ofQ ps1) rs[i].args)[j])]) ⟨hj', hV2.trans (hv3.trans hv4), hVV.trans (hv3.trans hv4), hPn, (hL2.imp fun x cs h => h.mono (hv3.trans hv4)).snoc hRS rfl, ⟨_, _, by rw [List.length_append]; rfl⟩, by rw [setI_len hnew, if_pos rfl]; omega, fun z h1 h2 h3 => look_mono hP2.ha.nd (hz2 z h1 h2 h3), fun _ he => by rw [← kcode_empty i he hll]; exact look_self hP2.ha.nd⟩ (by (try dsimp only); omega) ⟨rfl, rfl, rfl, trivial⟩ rfl (by (try dsimp only [List.set]); rw [@List.length_append _ out2]; first | done | rfl) rfl
      ·
        have hj' : j = (listsP (ofQ ps1) rs[i].args).length := by omega
        subst hj'
        refine K_exit ?_
        refine Q_then_exit ?_
        refine Q_then_exit ?_
        refine Q_block_exit ?_
        refine Q_block ?_
        refine Q_then ?_
        refine K_region ?_
        refine KV (R_add rfl rfl (by omega)) rfl ?_
        refine KV (R_move rfl) rfl ?_
        refine K_nil ?_
        refine KQ_sel [1, 2, 2, 0, 1, 1] rfl ?_
        refine Q_nextD (i + 1, more2, Vj, come2, had2, ps2, out2, .slice wa out2.length wc, oc) ⟨hi', hV2, hP2, hL2, ⟨_, _, rfl⟩, hmu2, fun z h1 h2 h3 => by
          by_cases ez : z = i
          · subst ez
            exact hz2j (by rw [lists_empty _ h3]; decide) h3
          · exact hz2 z h1 (by omega) h3⟩ (by (try dsimp only); omega) ⟨rfl, rfl, rfl, trivial⟩ rfl rfl rfl
    ·
      have hi' : i = rs.length := by omega
      refine K_exit ?_
      refine Q_then_exit ?_
      refine Q_then_exit ?_
      refine Q_block_exit ?_
      refine Q_block ?_
      refine Q_nextD (more1, V1, come1, had1, ps1, out1, .slice wa out1.length wc, oc) ⟨hV1, hP1, hL1, ⟨_, _, rfl⟩, fun _ z h1 h2 => hz1 z h1 (by omega) h2⟩ (by have := hP1.len hr; subst hmr; dsimp only; cases more1 <;> simp only [if_true, if_false, Bool.false_eq_true] at hmu1 ⊢ <;> omega) ⟨rfl, rfl, trivial⟩ rfl rfl rfl
  ·
    refine K_exit ?_
    refine Q_then_exit ?_
    refine Q_then_exit ?_
    refine Q_block_exit ?_
    refine Q_then ?_
    refine K_seq ?_
    refine K_region ?_
    refine KV (R_move rfl) rfl ?_
    refine KV (R_assign rfl) rfl ?_
    refine K_nil ?_
    refine Q_then ?_
    refine K_ret ?_
    refine KQ_front 1 rfl ?_
    refine KQ_pubrow rfl fun Hp hp hrow => ?_
    refine results_gen (rs := [.tmp 4]) (vs := [_]) rfl ⟨rfl, trivial⟩ ?_
    exact ⟨_, _, oc, out, rfl, hrow.sl, hL.imp fun x cs h => h.mono hp, by rw [hP.ln]; exact hP.len hr, hP.st, fun z h he => hP.p3 z h he (hp3 hmr z h he)⟩
end Go.Proofs.X

namespace Go.Proofs.X
open Go Pal Go.Proofs
attribute [local irreducible] Pal.KO Pal.KC Pal.KQ Pal.KD
theorem c51 : callable Tryz.prog F51 = true := by kernel_rfl
theorem c2228 : callable Tryz.prog F2228 = true := by kernel_rfl
theorem c2229 : callable Tryz.prog F2229 = true := by kernel_rfl
theorem c2230 : callable Tryz.prog F2230 = true := by kernel_rfl
theorem c2231 : callable Tryz.prog F2231 = true := by kernel_rfl
theorem c2232 : callable Tryz.prog F2232 = true := by kernel_rfl
theorem c2233 : callable Tryz.prog F2233 = true := by kernel_rfl
theorem c2234 : callable Tryz.prog F2234 = true := by kernel_rfl
theorem c2235 : callable Tryz.prog F2235 = true := by kernel_rfl
set_option maxRecDepth 8000 in
set_option maxHeartbeats 2000000 in
theorem differ_spec (rs : List Rl) (e : Dt) (hok : DtOk e) (hn8 : e.acc.length ≤ 8) (D : Int → Int → Prop) (hr : RsOk rs e D) (ra : Option Addr) (ca : Nat) (rcells : List Value) (gf : Nat) (cap : List Value) (F : Int → Bool) (hcal : callable Tryz.prog gf = true) (H : View) (rS : SlAt H (.slice ra rs.length ca) rs.length rcells) (rL : RepL (RepR H) 3 rs rcells) (v1 v2 v3 : Value) (hd : RepDt H e v1 v2 v3)
    (hf : ∀ q V, VLe H V → GB q → (0 ≤ q % 16 ∧ q % 16 < (e.acc.length : Int)) → D (q / 16) (q % 16) → Sat Tryz.prog gf ([] ++ [keB q] ++ cap).toArray V (fun r _ => r = .bool (F q))) :
    Sat Tryz.prog F2228 #[.slice ra rs.length ca, .agg #[v1, v2, v3], .func (.func gf) #[] cap.toArray] H (fun r H' => ∃ B ds, r = .tuple #[.bool B, .agg ds.toArray] ∧ DiffAt H' rs e D F B ds) := by
  obtain ⟨ua1, uc1x, rfl⟩ := hd.r.shape
  obtain ⟨ua2, uc2x, rfl⟩ := hd.a.shape
  obtain ⟨ua3, uc3x, rfl⟩ := hd.t.shape
  refine enterO (n := 27) (args := [.slice ra rs.length ca, .agg #[.slice ua1 e.ranks.length uc1x, .slice ua2 e.acc.length uc2x, .slice ua3 e.to.length uc3x], .func (.func gf) #[] cap.toArray]) Tryz.func82 rfl rfl rfl fun w0 => ?_
  refine K_seq ?_
  refine K_region ?_
  refine KA (A_box rfl) rfl fun b4 => ?_
  refine KA (A_box rfl) rfl fun b5 => ?_
  refine KV (R_assign rfl) rfl ?_
  refine KA (A_alloc z30) rfl fun b7 => ?_
  refine K_nil ?_
  refine Q_then ?_
  refine K_seq ?_
  refine K_region ?_
  refine KV (R_move rfl) rfl ?_
  refine KV (R_loadW ty54 2 rfl rfl rfl rfl) rfl ?_
  refine K_call c2231 rfl rfl (pairs_spec rs e hok hn8 D hr ra ca rcells H rS rL _ _ _ hd) ?_
  rintro _ V1 hv1 ⟨a, cp, cells, out, rfl, oS, oL, hol, hst, hp3⟩
  refine KV (R_assign rfl) rfl ?_
  refine K_nil ?_
  refine Q_then ?_
  refine K_seq ?_
  refine K_seq ?_
  refine KC_front 1 rfl ?_
  try dsimp only [List.eraseIdx]
  refine KC_pubF fun V2 hv2 hb5 => ?_
  skip
  have hA5 : At V2 b5 0 [.func (.func gf) #[] cap.toArray] := At.of hb5
  refine K_region ?_
  refine KV (R_move rfl) rfl ?_
  refine KV (R_makeFunc rfl rfl) rfl ?_
  refine K_call c2232 rfl rfl (stcon_spec F2233 [ptr b5] (fun r => F r.to) out a cp cells V2 (oS.mono hv2) (oL.imp fun x cs h => h.mono hv2) (by omega) c2233 (fun r cs V hr2 hV hrs => differ1_spec gf cap F hcal b5 r cs V (hA5.mono hV) hrs (hf r.to V ((hv1.trans hv2).trans hV) (hst r hr2).2.2.1 (hst r hr2).2.2.2.1 (hst r hr2).2.2.2.2.2))) ?_
  rintro _ V3 hv3 rfl
  refine KV (R_not rfl) rfl ?_
  refine K_nil ?_
  refine Q_then ?_
  refine K_ifB rfl (fun h17 => ?_) (fun h17 => ?_)
  ·
    refine K_seq ?_
    refine K_region ?_
    refine KV (R_build z30 pl30 rfl rfl) rfl ?_
    refine KV (R_assign rfl) rfl ?_
    refine K_storeW ty30 0 rfl rfl rfl rfl rfl rfl rfl ?_
    refine K_nil ?_
    refine Q_then ?_
    refine K_ret ?_
    refine Q_then_ret ?_
    refine results_gen (rs := [.tmp 6, .cell 7 39]) (vs := [_, _]) rfl ⟨rfl, ⟨⟨_, _, _, _, _, _, 0, rfl, rfl, ty30, (fun e => by cases e), rfl, rfl⟩, trivial⟩⟩ ?_
    exact ⟨true, [.int .i64 0, .slice none 0 0], rfl, out, none, fun _ => none, repT_leaf _ 0 (by simp [i64ok]), hst, hp3, h17.symm, fun _ => rfl, fun h => (by cases h)⟩
  ·
    have hany : (out.any fun s => F s.to) = true := by simpa using h17
    have hokA := stepAu_ok hok hol hst
    refine K_skip ?_
    refine Q_then ?_
    refine K_seq ?_
    refine K_regionD (fin := false) (R := [0, 2, 1, 3, 4, 5, 6, 7, 8, 9]) (by kernel_rfl) mixed (.cons_cons _ (.cons_cons _ (List.nil_sublist _))) ?_
    refine D_val rfl rfl rfl (R_move rfl) ?_
    refine D_val rfl rfl rfl (R_loadH ty2221 rfl (hA5.mono hv3) rfl (fun _ => rfl) rfl) ?_
    refine D_call rfl rfl c2235 rfl ⟨⟨0, rfl⟩, ⟨1, rfl⟩, trivial⟩ (leastsB_spec ⟨e.ranks, 256, out, []⟩ hokA a cp cells V3 (oS.mono (hv2.trans hv3)) (oL.imp fun x cs h => h.mono (hv2.trans hv3))) ?_
    rintro _ V4 hv4 ⟨mb, kvs, bt, rfl, hm, hM, hG, hB⟩
    refine D_call rfl rfl c2234 rfl ⟨⟨0, rfl⟩, ⟨1, rfl⟩, trivial⟩ (leastB_spec gf cap F hcal V4 mb kvs bt hm hM hG (fun q t hq => best_fits hB hokA hq) (fun q V hV hq => by obtain ⟨t, ht⟩ := hM.of_key hq; obtain ⟨s, hs, rfl⟩ := key_step hB ht; exact hf s.to V ((hv1.trans (hv2.trans (hv3.trans hv4))).trans hV) (hst s hs).2.2.1 (hst s hs).2.2.2.1 (hst s hs).2.2.2.2.2)) ?_
    rintro _ V5 hv5 ⟨ds, o, rfl, hds, hO⟩
    obtain ⟨x0, x1, x2, x3, rfl⟩ := hds.shape
    refine D_val rfl rfl rfl (R_move rfl) ?_
    refine D_val rfl rfl rfl (R_extract rfl rfl) ?_
    refine D_val rfl rfl rfl (R_extract rfl rfl) ?_
    refine D_alloc rfl rfl rfl (A_alloc z30) fun b9 => ?_
    refine D_storeW ty30 0 rfl rfl rfl rfl rfl ⟨⟨0, rfl⟩, ⟨1, rfl⟩, trivial⟩ rfl rfl rfl rfl ?_
    refine D_val rfl rfl rfl (R_assign rfl) ?_
    refine D_done ?_
    refine Q_then ?_
    refine K_seq ?_
    refine K_regionD (fin := true) (R := [0, 1, 2]) (by kernel_rfl) mixed (.cons_cons _ (.cons_cons _ (.cons_cons _ (List.nil_sublist _)))) ?_
    refine D_val rfl rfl rfl (R_loadW ty30 0 rfl rfl rfl rfl) ?_
    refine D_val rfl rfl rfl (R_assign rfl) ?_
    refine D_lastStoreW ty30 1 rfl rfl rfl rfl rfl rfl rfl rfl rfl ?_
    refine Q_then ?_
    refine K_ret ?_
    refine results_gen (rs := [.tmp 6, .cell 7 39]) (vs := [_, _]) rfl ⟨rfl, ⟨⟨_, _, _, _, _, _, 1, rfl, rfl, ty30, (fun e => by cases e), rfl, rfl⟩, trivial⟩⟩ ?_
    exact ⟨false, [.int .i64 x0, .slice x1 x2 x3], rfl, out, o, bt, hds, hst, hp3, by rw [hany]; rfl, fun h => (by cases h), fun _ => ⟨hB, hO, hokA⟩⟩

set_option maxRecDepth 8000 in
set_option maxHeartbeats 2000000 in
theorem equal36_spec (d e : Dt) (hb : d.ranks.length ≤ 1048576 ∧ d.acc.length ≤ 1048576 ∧ d.to.length ≤ 1048576 ∧ ∀ x ∈ d.to, x.length ≤ 1048576) (hc : e.ranks.length ≤ 1048576 ∧ e.acc.length ≤ 1048576 ∧ e.to.length ≤ 1048576 ∧ ∀ x ∈ e.to, x.length ≤ 1048576) (hdn : d.acc.length ≤ 8) (hen : e.acc.length ≤ 8) (hdr : d.ranks.length ≤ 8) (her : e.ranks.length ≤ 8) (D : Int → Int → Prop) (hcl : dtErr d = 0 → dtErr e = 0 → d.ranks = e.ranks → ∀ (s : Nat) (xs l : List Int), s < d.ranks.length → xs ∈ tups d.acc.length (d.ranks.getD s 0).toNat → l.length = xs.length → (∀ x ∈ l, 0 ≤ x ∧ x < (e.acc.length : Int)) → (∀ j (h : j < l.length) (h2 : j < xs.length), D xs[j] l[j]) → D (atM d (s : Int) xs) (atM e (s : Int) l)) (v1 v2 v3 w1 w2 w3 : Value) (H : View) (hd : RepDt H d v1 v2 v3) (he : RepDt H e w1 w2 w3) :
    Sat Tryz.prog F2223 #[.agg #[v1, v2, v3], .agg #[w1, w2, w3]] H (fun r H' => ∃ B ds, r = .tuple #[.bool B, .agg ds.toArray, .int .i64 (eqErr d e)] ∧ (∃ s a k c, ds = [.int .i64 s, .slice a k c]) ∧ (eqErr d e ≠ 0 → B = false ∧ ds = [.int .i64 0, .slice none 0 0]) ∧ (eqErr d e = 0 → DiffAt H' (rulesD d) e (DP d D) (fun q => d.acc.getD (q / 16).toNat false != e.acc.getD (q % 16).toNat false) B ds)) := by
  obtain ⟨ua1, uc1x, rfl⟩ := hd.r.shape
  obtain ⟨ua2, uc2x, rfl⟩ := hd.a.shape
  obtain ⟨ua3, uc3x, rfl⟩ := hd.t.shape
  obtain ⟨wa1, wc1x, rfl⟩ := he.r.shape
  obtain ⟨wa2, wc2x, rfl⟩ := he.a.shape
  obtain ⟨wa3, wc3x, rfl⟩ := he.t.shape
  unfold eqErr
  have hmul : (d.acc.length : Int) * (e.acc.length : Int) ≤ 8 * 8 := Int.mul_le_mul (by omega) (by omega) (by omega) (by decide)
  have hmul0 : 0 ≤ (d.acc.length : Int) * (e.acc.length : Int) := Int.mul_nonneg (by omega) (by omega)
  refine enterO (n := 49) (args := [.agg #[.slice ua1 d.ranks.length uc1x, .slice ua2 d.acc.length uc2x, .slice ua3 d.to.length uc3x], .agg #[.slice wa1 e.ranks.length wc1x, .slice wa2 e.acc.length wc2x, .slice wa3 e.to.length wc3x]]) Tryz.func37 rfl rfl rfl fun w0 => ?_
  refine K_seq ?_
  refine K_region ?_
  refine KA (A_box rfl) rfl fun b2 => ?_
  refine KA (A_box rfl) rfl fun b3 => ?_
  refine KV (R_assign rfl) rfl ?_
  refine KA (A_alloc z30) rfl fun b5 => ?_
  refine KV (R_assign rfl) rfl ?_
  refine K_nil ?_
  refine Q_then ?_
  refine K_seq ?_
  refine K_seq ?_
  refine K_region ?_
  refine KV (R_loadW ty54 2 rfl rfl rfl rfl) rfl ?_
  refine K_call c63 rfl rfl (dcheck_spec d _ _ _ H hd hb) ?_
  rintro _ V1 hv1 rfl
  refine KV (R_assign rfl) rfl ?_
  refine K_nil ?_
  refine Q_then ?_
  refine K_seq ?_
  refine K_region ?_
  refine KV (R_move rfl) rfl ?_
  refine KV (R_cmp rfl rfl rfl) rfl ?_
  refine K_nil ?_
  refine Q_then ?_
  refine K_if rfl (fun h14 => ?_) (fun h14 => ?_)
  ·
    refine K_seq ?_
    refine K_region ?_
    refine KV (R_build z30 pl30 rfl rfl) rfl ?_
    refine KV (R_move rfl) rfl ?_
    refine KV (R_assign rfl) rfl ?_
    refine K_storeW ty30 0 rfl rfl rfl rfl rfl rfl rfl ?_
    refine KV (R_assign rfl) rfl ?_
    refine K_nil ?_
    refine Q_then ?_
    refine K_ret ?_
    refine Q_then_ret ?_
    refine results_gen (rs := [.tmp 4, .cell 5 39, .tmp 6]) (vs := [_, _, _]) rfl ⟨rfl, ⟨⟨_, _, _, _, _, _, 0, rfl, rfl, ty30, (fun e => by cases e), rfl, rfl⟩, ⟨rfl, trivial⟩⟩⟩ ?_
    rw [if_pos h14]
    exact ⟨false, [.int .i64 0, .slice none 0 0], rfl, ⟨_, _, _, _, rfl⟩, fun _ => ⟨rfl, rfl⟩, fun h => absurd h h14⟩
  ·
    have hde : dtErr d = 0 := Decidable.not_not.1 h14
    have hok := DtOk.of hde
    refine K_skip ?_
    refine Q_then ?_
    refine K_seq ?_
    refine K_seq ?_
    refine K_region ?_
    refine KV (R_loadW ty54 1 rfl rfl rfl rfl) rfl ?_
    refine K_call c63 rfl rfl (dcheck_spec e _ _ _ V1 (he.mono hv1) hc) ?_
    rintro _ V2 hv2 rfl
    refine KV (R_assign rfl) rfl ?_
    refine K_nil ?_
    refine Q_then ?_
    refine K_seq ?_
    refine K_region ?_
    refine KV (R_move rfl) rfl ?_
    refine KV (R_cmp rfl rfl rfl) rfl ?_
    refine K_nil ?_
    refine Q_then ?_
    refine K_if rfl (fun h20 => ?_) (fun h20 => ?_)
    ·
      refine K_seq ?_
      refine K_region ?_
      refine KV (R_build z30 pl30 rfl rfl) rfl ?_
      refine KV (R_move rfl) rfl ?_
      refine KV (R_assign rfl) rfl ?_
      refine K_storeW ty30 0 rfl rfl rfl rfl rfl rfl rfl ?_
      refine KV (R_assign rfl) rfl ?_
      refine K_nil ?_
      refine Q_then ?_
      refine K_ret ?_
      refine Q_then_ret ?_
      refine results_gen (rs := [.tmp 4, .cell 5 39, .tmp 6]) (vs := [_, _, _]) rfl ⟨rfl, ⟨⟨_, _, _, _, _, _, 0, rfl, rfl, ty30, (fun e => by cases e), rfl, rfl⟩, ⟨rfl, trivial⟩⟩⟩ ?_
      rw [if_neg h14, if_pos h20]
      exact ⟨false, [.int .i64 0, .slice none 0 0], rfl, ⟨_, _, _, _, rfl⟩, fun _ => ⟨rfl, rfl⟩, fun h => absurd h h20⟩
    ·
      have hee : dtErr e = 0 := Decidable.not_not.1 h20
      have hoke := DtOk.of hee
      refine K_skip ?_
      refine Q_then ?_
      refine K_seq ?_
      refine K_seq ?_
      refine K_region ?_
      refine KV (R_fieldAddr 0 fd54_0 rfl) rfl ?_
      refine KV (R_loadO ty47 2 rfl rfl rfl rfl (fun _ => rfl) rfl) rfl ?_
      refine KV (R_fieldAddr 0 fd54_0 rfl) rfl ?_
      refine KV (R_loadO ty47 1 rfl rfl rfl rfl (fun _ => rfl) rfl) rfl ?_
      refine K_call c51 rfl rfl (eqa_spec d.ranks e.ranks _ _ V2 (hd.mono (hv1.trans hv2)).r (he.mono (hv1.trans hv2)).r (by omega) (by omega)) ?_
      rintro _ V3 hv3 rfl
      refine KV (R_notP rfl) rfl ?_
      refine K_nil ?_
      refine Q_then ?_
      refine K_if rfl (fun h28 => ?_) (fun h28 => ?_)
      ·
        refine K_seq ?_
        refine K_region ?_
        refine KV (R_build z30 pl30 rfl rfl) rfl ?_
        refine KV (R_assign rfl) rfl ?_
        refine K_storeW ty30 0 rfl rfl rfl rfl rfl rfl rfl ?_
        refine KV (R_assign rfl) rfl ?_
        refine K_nil ?_
        refine Q_then ?_
        refine K_ret ?_
        refine Q_then_ret ?_
        refine results_gen (rs := [.tmp 4, .cell 5 39, .tmp 6]) (vs := [_, _, _]) rfl ⟨rfl, ⟨⟨_, _, _, _, _, _, 0, rfl, rfl, ty30, (fun e => by cases e), rfl, rfl⟩, ⟨rfl, trivial⟩⟩⟩ ?_
        rw [if_neg h14, if_neg h20, if_pos h28]
        exact ⟨false, [.int .i64 0, .slice none 0 0], rfl, ⟨_, _, _, _, rfl⟩, fun _ => ⟨rfl, rfl⟩, fun h => absurd h (by decide)⟩
      ·
        have hrk : d.ranks = e.ranks := Decidable.not_not.1 h28
        refine K_skip ?_
        refine Q_then ?_
        refine K_seq ?_
        refine K_seq ?_
        refine K_region ?_
        refine KV (R_fieldAddr 1 fd54_1 rfl) rfl ?_
        refine KV (R_loadO ty52 2 rfl rfl rfl rfl (fun _ => rfl) rfl) rfl ?_
        refine KV (R_len sl52 rfl) rfl ?_
        refine KV (R_fieldAddr 1 fd54_1 rfl) rfl ?_
        refine KV (R_loadO ty52 1 rfl rfl rfl rfl (fun _ => rfl) rfl) rfl ?_
        refine KV (R_len sl52 rfl) rfl ?_
        refine KV (R_mul rfl rfl (by omega)) rfl ?_
        refine KV (R_cmp rfl rfl rfl) rfl ?_
        refine K_nil ?_
        refine Q_then ?_
        refine K_if rfl (fun h37 => ?_) (fun h37 => ?_)
        ·
          exact absurd h37 (by omega)
        ·
          refine K_skip ?_
          refine Q_then ?_
          refine K_seq ?_
          refine KC_front 2 rfl ?_
          try dsimp only [List.eraseIdx]
          refine KC_pubF fun V4 hv4 hb2 => ?_
          skip
          refine KC_front 1 rfl ?_
          try dsimp only [List.eraseIdx]
          refine KC_pubF fun V5 hv5 hb3 => ?_
          skip
          have hvW := hv1.trans (hv2.trans (hv3.trans (hv4.trans hv5)))
          have hA2 : At V5 b2 0 [.slice ua1 d.ranks.length uc1x, .slice ua2 d.acc.length uc2x, .slice ua3 d.to.length uc3x] := (At.of hb2).mono hv5
          have hA3 : At V5 b3 0 [.slice wa1 e.ranks.length wc1x, .slice wa2 e.acc.length wc2x, .slice wa3 e.to.length wc3x] := At.of hb3
          refine K_regionD (fin := true) (R := [0, 2, 3, 1, 4, 5, 6, 7, 8, 9, 10]) (by kernel_rfl) mixed (.cons_cons _ (List.nil_sublist _)) ?_
          refine D_val rfl rfl rfl (R_loadH ty54 rfl (hA2) rfl (fun e => by cases e) rfl) ?_
          refine D_val rfl rfl rfl (R_loadH ty54 rfl (hA3) rfl (fun e => by cases e) rfl) ?_
          refine D_val rfl rfl rfl (R_makeFunc rfl rfl) ?_
          refine D_call rfl rfl c2229 rfl ⟨⟨0, rfl⟩, trivial⟩ (rules_spec d hok hdr hdn _ _ _ V5 (hd.mono hvW)) ?_
          rintro _ V6 hv6 ⟨ra, ca, rcells, rfl, rS, rL⟩
          refine D_call rfl rfl c2228 rfl ⟨⟨0, rfl⟩, trivial⟩ (differ_spec (rulesD d) e hoke hen (DP d D) (rs_of hok hrk hdn hdr (hcl hde hee hrk)) ra ca rcells F2230 [ptr b2, ptr b3] (fun q => d.acc.getD (q / 16).toNat false != e.acc.getD (q % 16).toNat false) c2230 V6 rS rL _ _ _ (he.mono (hvW.trans hv6)) (fun q V hV hg hm hD => equal1_spec d e q b2 b3 _ _ _ _ _ _ V (hd.mono (hvW.trans (hv6.trans hV))) (he.mono (hvW.trans (hv6.trans hV))) (hA2.mono (hv6.trans hV)) (hA3.mono (hv6.trans hV)) hD.1 hm)) ?_
          rintro _ V7 hv7 ⟨B, ds, rfl, hDf⟩
          obtain ⟨x0, x1, x2, x3, rfl⟩ := hDf.shape
          refine D_val rfl rfl rfl (R_move rfl) ?_
          refine D_val rfl rfl rfl (R_extract rfl rfl) ?_
          refine D_val rfl rfl rfl (R_extract rfl rfl) ?_
          refine D_alloc rfl rfl rfl (A_alloc z30) fun b10 => ?_
          refine D_val rfl rfl rfl (R_assign rfl) ?_
          refine D_lastStoreW ty30 0 rfl rfl rfl rfl rfl rfl rfl rfl rfl ?_
          refine Q_then ?_
          refine K_seq ?_
          refine K_regionD (fin := false) (R := [0, 1, 2, 3, 4]) (by kernel_rfl) mixed (.cons_cons _ (.cons _ (List.nil_sublist _))) ?_
          refine D_val rfl rfl rfl (R_move rfl) ?_
          refine D_val rfl rfl rfl (R_loadW ty30 0 rfl rfl rfl rfl) ?_
          refine D_val rfl rfl rfl (R_assign rfl) ?_
          refine D_storeW ty30 1 rfl rfl rfl rfl rfl ⟨⟨0, rfl⟩, trivial⟩ rfl rfl rfl rfl ?_
          refine D_val rfl rfl rfl (R_assign rfl) ?_
          refine D_done ?_
          refine Q_then ?_
          refine K_ret ?_
          refine results_gen (rs := [.tmp 4, .cell 5 39, .tmp 6]) (vs := [_, _, _]) rfl ⟨rfl, ⟨⟨_, _, _, _, _, _, 0, rfl, rfl, ty30, (fun e => by cases e), rfl, rfl⟩, ⟨rfl, trivial⟩⟩⟩ ?_
          rw [if_neg h14, if_neg h20, if_neg h28]
          exact ⟨B, [.int .i64 x0, .slice x1 x2 x3], rfl, ⟨_, _, _, _, rfl⟩, fun h => absurd rfl h, fun _ => hDf⟩
end Go.Proofs.X

namespace Go.Proofs.X
open Go Pal Go.Proofs
attribute [local irreducible] Pal.KO Pal.KC Pal.KQ Pal.KD
theorem c74 : callable Tryz.prog F74 = true := by kernel_rfl
theorem c2223 : callable Tryz.prog F2223 = true := by kernel_rfl
theorem dclone_spec (d : Dt) (hb : d.ranks.length ≤ 1048576 ∧ d.acc.length ≤ 1048576 ∧ d.to.length ≤ 1048576 ∧ ∀ x ∈ d.to, x.length ≤ 1048576) (v1 v2 v3 : Value) (H : View) (hd : RepDt H d v1 v2 v3) : Sat Tryz.prog F2224 #[.agg #[v1, v2, v3]] H (fun r H' => ∃ w1 w2 w3, r = .agg #[w1, w2, w3] ∧ RepDt H' d w1 w2 w3) := by
  obtain ⟨ua1, uc1x, rfl⟩ := hd.r.shape
  obtain ⟨ua2, uc2x, rfl⟩ := hd.a.shape
  obtain ⟨ua3, uc3x, rfl⟩ := hd.t.shape
  obtain ⟨hb1, hb2, hb3, hb4⟩ := hb
  refine enterO (n := 29) (args := [.agg #[.slice ua1 d.ranks.length uc1x, .slice ua2 d.acc.length uc2x, .slice ua3 d.to.length uc3x]]) Tryz.func38 rfl rfl rfl fun w0 => ?_
  refine K_seq ?_
  refine K_region ?_
  refine KA (A_box rfl) rfl fun b1 => ?_
  refine KA (A_alloc z54) rfl fun b2 => ?_
  refine K_nil ?_
  refine Q_then ?_
  refine K_seq ?_
  refine K_regionD (fin := true) (R := [0, 1, 3, 4, 2, 5, 6, 7, 8]) (by kernel_rfl) mixed (.cons _ (.cons_cons _ (List.nil_sublist _))) ?_
  refine D_val rfl rfl rfl (R_fieldAddr 0 fd54_0 rfl) ?_
  refine D_val rfl rfl rfl (R_loadO ty47 0 rfl rfl rfl rfl (fun _ => rfl) rfl) ?_
  refine D_val rfl rfl rfl (R_fieldAddr 1 fd54_1 rfl) ?_
  refine D_val rfl rfl rfl (R_loadO ty52 0 rfl rfl rfl rfl (fun _ => rfl) rfl) ?_
  refine D_call rfl rfl c45 rfl ⟨⟨1, rfl⟩, trivial⟩ (clone47_spec d.ranks _ H hd.r (by omega)) ?_
  rintro _ V1 hv1 hcr
  obtain ⟨ca, cc, rfl⟩ := hcr.shape
  refine D_call rfl rfl c74 rfl ⟨⟨1, rfl⟩, trivial⟩ (cloneb_spec d.acc _ V1 (hd.mono hv1).a (by omega)) ?_
  rintro _ V2 hv2 hcb
  obtain ⟨ea, ec, rfl⟩ := hcb.shape
  refine D_val rfl rfl rfl (R_build z54 pl54 rfl rfl) ?_
  refine D_alloc rfl rfl rfl (A_alloc z54) fun b3 => ?_
  refine D_lastStoreW ty54 0 rfl rfl rfl rfl rfl rfl rfl rfl rfl ?_
  refine Q_then ?_
  refine K_seq ?_
  refine K_seq ?_
  refine K_region ?_
  refine KV (R_fieldAddr 2 fd54_2 rfl) rfl ?_
  refine KV (R_loadO ty44 2 rfl rfl rfl rfl (fun _ => rfl) rfl) rfl ?_
  refine KV (R_len sl44 rfl) rfl ?_
  refine KV (R_move rfl) rfl ?_
  refine K_nil ?_
  refine Q_then ?_
  refine K_block ?_
  refine K_nilrow T25 1 ?_
  refine K_loopD (G := Nat × View × Value × List Value) [5, 16, 17, 18, 19, 20, 21, 22, 23, 24, 25, 26, 27] (fun g => [(16, .int .i64 (g.1 : Int))]) (fun hl g => ((hl.set 0 (row g.2.2.1 T25 1 g.1 g.2.2.2)).set 1 (blk b3 (.cells #[.slice ca d.ranks.length cc, .slice ea d.acc.length ec, g.2.2.1] T54 (0, 0))))) (fun g => g.2.1) (fun g => (g.1 ≤ d.to.length) ∧ (VLe V2 g.2.1) ∧ (RepL (RSI g.2.1) 1 (d.to.take g.1) g.2.2.2) ∧ (∃ ad cp, g.2.2.1 = .slice ad g.1 cp)) (fun g => d.to.length - g.1) (0, V2, nilS, []) ⟨Nat.zero_le _, VLe.refl _, .nil, none, 0, rfl⟩ ⟨rfl, trivial⟩ (by simp only [args0, Nat.reduceAdd, del, memN, beqN, Nat.reduceBEq, cond_true, cond_false]; rfl) rfl rfl ?_
  rintro ⟨k, V, w, cells⟩ ⟨hk, hV, hC, hw⟩
  dsimp only at hk hV hC hw
  dsimp only [List.set, List.cons_append, List.nil_append]
  obtain ⟨wa, wcp, rfl⟩ := hw
  refine K_seq ?_
  refine K_region ?_
  refine KV (R_cmp rfl rfl rfl) rfl ?_
  refine K_nil ?_
  refine Q_then ?_
  refine K_seq ?_
  refine K_if rfl (fun h17 => ?_) (fun h17 => ?_)
  ·
    have hk' : k < d.to.length := by omega
    obtain ⟨tb, to_, ea_, ecp, hte, tA, tE⟩ := (hd.mono (hv1.trans (hv2.trans hV))).t.get hk'
    cases hte
    have hxl := hb4 _ (List.getElem_mem hk')
    refine K_skip ?_
    refine Q_then ?_
    refine K_seq ?_
    refine K_block ?_
    refine K_seq ?_
    refine K_region ?_
    refine KV (R_indexN sl44 ty25 rfl rfl (by omega)) rfl ?_
    refine KV (R_loadH ty25 rfl (tA) rfl (fun _ => rfl) rfl) rfl ?_
    refine KV (R_assign rfl) rfl ?_
    refine K_nil ?_
    refine Q_then ?_
    refine K_regionD (fin := true) (R := [0, 1, 2, 3, 4, 5, 6, 7]) (by kernel_rfl) mixed (.cons _ (.cons_cons _ (.cons _ (.cons _ (List.nil_sublist _))))) ?_
    refine D_val rfl rfl rfl (R_fieldAddr 2 fd54_2 rfl) ?_
    refine D_val rfl rfl rfl (R_loadO ty44 0 rfl rfl rfl rfl (fun _ => rfl) rfl) ?_
    refine D_val rfl rfl rfl (R_move rfl) ?_
    refine D_call rfl rfl c65 rfl ⟨⟨1, rfl⟩, trivial⟩ (clone25_spec d.to[k] _ V tE (by omega)) ?_
    rintro _ U hU hce
    obtain ⟨cea, cec, rfl⟩ := hce.shape
    refine D_alloc rfl rfl rfl (A_buildSlice (vs := [.slice cea d.to[k].length cec]) sl44 ty25 z25 rfl rfl (by simp [Value.cells]) (by simp) rfl (by decide)) fun b24 => ?_
    refine D_append1 0 ap44 rfl rfl rfl rfl rfl rfl ⟨⟨0, rfl⟩, trivial⟩ rfl rfl ⟨by omega, by omega⟩ fun a25 k25 hn25 => ?_
    refine D_val rfl rfl rfl (R_fieldAddr 2 fd54_2 rfl) ?_
    refine D_lastStore ty44 1 rfl rfl rfl rfl rfl rfl rfl rfl ?_
    refine Q_block ?_
    refine Q_then ?_
    refine K_region ?_
    refine KV (R_add rfl rfl (by omega)) rfl ?_
    refine KV (R_move rfl) rfl ?_
    refine K_nil ?_
    refine Q_nextD (k + 1, U, .slice a25 (k + 1) k25, cells ++ [.slice cea d.to[k].length cec]) ⟨hk', hV.trans hU, by rw [List.take_succ_eq_append_getElem hk']; exact (hC.imp fun x cs h => h.mono hU).snoc ⟨_, rfl, hce⟩ rfl, _, _, rfl⟩ (by (try dsimp only); omega) ⟨rfl, trivial⟩ rfl rfl rfl
  ·
    have hk' : k = d.to.length := by omega
    subst hk'
    rw [List.take_length] at hC
    refine K_exit ?_
    refine Q_then_exit ?_
    refine Q_then_exit ?_
    refine Q_block_exit ?_
    refine Q_then ?_
    refine K_seq ?_
    refine K_region ?_
    refine KV (R_loadW ty54 1 rfl rfl rfl rfl) rfl ?_
    refine K_storeW ty54 2 rfl rfl rfl rfl rfl rfl rfl ?_
    refine K_nil ?_
    refine Q_then ?_
    refine K_ret ?_
    refine KQ_pubrow rfl fun Hp hp hrow => ?_
    refine results_gen (rs := [.cell 2 59]) (vs := [_]) rfl ⟨⟨_, _, _, _, _, _, 1, rfl, rfl, ty54, (fun e => by cases e), rfl, rfl⟩, trivial⟩ ?_
    exact ⟨_, _, _, rfl, hcr.mono (hv2.trans (hV.trans hp)), hcb.mono (hV.trans hp), ⟨cells, hrow.sl, hC.imp fun x cs h => h.mono hp⟩⟩

end Go.Proofs.X

namespace Go.Proofs.X
open Go Pal Go.Proofs
attribute [local irreducible] Pal.KO Pal.KC Pal.KQ Pal.KD
theorem c2224 : callable Tryz.prog F2224 = true := by kernel_rfl
set_option maxRecDepth 8000 in
set_option maxHeartbeats 2000000 in
theorem self_law (d : Dt) (hb : d.ranks.length ≤ 1048576 ∧ d.acc.length ≤ 1048576 ∧ d.to.length ≤ 1048576 ∧ ∀ x ∈ d.to, x.length ≤ 1048576) (v1 v2 v3 : Value) (H : View) (hd : RepDt H d v1 v2 v3) : Sat Tryz.prog F2216 #[.agg #[v1, v2, v3]] H (fun r _ => r = .bool true) := by
  obtain ⟨ua1, uc1x, rfl⟩ := hd.r.shape
  obtain ⟨ua2, uc2x, rfl⟩ := hd.a.shape
  obtain ⟨ua3, uc3x, rfl⟩ := hd.t.shape
  refine enterO (n := 80) (args := [.agg #[.slice ua1 d.ranks.length uc1x, .slice ua2 d.acc.length uc2x, .slice ua3 d.to.length uc3x]]) Tryz.func8 rfl rfl rfl fun w0 => ?_
  refine K_seq ?_
  refine K_region ?_
  refine KA (A_box rfl) rfl fun b1 => ?_
  refine KV (R_assign rfl) rfl ?_
  refine K_nil ?_
  refine Q_then ?_
  refine K_seq ?_
  refine K_seq ?_
  refine K_region ?_
  refine K_call c2145 rfl rfl (known36_spec H) ?_
  rintro _ V1 hv1 rfl
  refine KV (R_not rfl) rfl ?_
  refine K_nil ?_
  refine Q_then ?_
  refine K_ifB rfl (fun h14 => ?_) (fun h14 => ?_)
  ·
    cases h14
  ·
    refine K_skip ?_
    refine Q_then ?_
    refine K_seq ?_
    refine K_seq ?_
    refine K_region ?_
    refine KV (R_loadW ty2129 0 rfl rfl rfl rfl) rfl ?_
    refine K_call c2146 rfl rfl (fine_spec d hb _ _ _ V1 (hd.mono hv1)) ?_
    rintro _ V2 hv2 ⟨b16, rfl, hfine⟩
    refine KV (R_not rfl) rfl ?_
    refine K_nil ?_
    refine Q_then ?_
    refine K_ifB rfl (fun h17 => ?_) (fun h17 => ?_)
    ·
      refine K_seq ?_
      refine K_region ?_
      refine KV (R_assign rfl) rfl ?_
      refine K_nil ?_
      refine Q_then ?_
      refine K_ret ?_
      refine Q_then_ret ?_
      refine results_gen (rs := [.tmp 2]) (vs := [_]) rfl ⟨rfl, trivial⟩ ?_
      rfl
    ·
      obtain ⟨hn4, hr6, hde⟩ := hfine (by simpa using h17)
      have hok := DtOk.of hde
      have hbC : (cmplD d).ranks.length ≤ 1048576 ∧ (cmplD d).acc.length ≤ 1048576 ∧ (cmplD d).to.length ≤ 1048576 ∧ ∀ x ∈ (cmplD d).to, x.length ≤ 1048576 := ⟨hb.1, by rw [cmpl_len]; exact hb.2.1, hb.2.2.1, hb.2.2.2⟩
      refine K_skip ?_
      refine Q_then ?_
      refine K_seq ?_
      refine K_region ?_
      refine KV (R_loadW ty2129 0 rfl rfl rfl rfl) rfl ?_
      refine K_call c2148 rfl rfl (l36to_spec d hb _ _ _ V2 (hd.mono (hv1.trans hv2))) ?_
      rintro _ V3 hv3 ⟨w1, w2, w3, rfl, hw⟩
      refine K_call c2221 rfl rfl (complement_spec d hb (by omega) _ _ _ V3 hw) ?_
      rintro _ V4 hv4 ⟨e1, e2, e3, rfl, hX⟩
      rw [if_neg (not_not_intro hde)] at hX
      rw [hde]
      obtain ⟨cca1, ccc1x, rfl⟩ := hX.r.shape
      obtain ⟨cca2, ccc2x, rfl⟩ := hX.a.shape
      obtain ⟨cca3, ccc3x, rfl⟩ := hX.t.shape
      refine KV (R_move rfl) rfl ?_
      refine KV (R_extract rfl rfl) rfl ?_
      refine KV (R_extract rfl rfl) rfl ?_
      refine KA (A_alloc z54) rfl fun b3 => ?_
      refine K_storeW ty54 0 rfl rfl rfl rfl rfl rfl rfl ?_
      refine KV (R_assign rfl) rfl ?_
      refine K_nil ?_
      refine Q_then ?_
      refine K_seq ?_
      refine K_regionD (fin := false) (R := [0, 2, 1, 3, 4, 5, 6, 7, 8, 9, 10, 11, 12, 13]) (by kernel_rfl) mixed (.cons_cons _ (.cons_cons _ (List.nil_sublist _))) ?_
      refine D_val rfl rfl rfl (R_loadW ty2129 1 rfl rfl rfl rfl) ?_
      refine D_val rfl rfl rfl (R_loadW ty2129 1 rfl rfl rfl rfl) ?_
      refine D_call rfl rfl c2148 rfl ⟨⟨0, rfl⟩, ⟨1, rfl⟩, trivial⟩ (l36to_spec d hb _ _ _ V4 (hd.mono (hv1.trans (hv2.trans (hv3.trans (hv4)))))) ?_
      rintro _ V5 hv5 ⟨p1, p2, p3, rfl, hp5⟩
      obtain ⟨ppa1, ppc1x, rfl⟩ := hp5.r.shape
      obtain ⟨ppa2, ppc2x, rfl⟩ := hp5.a.shape
      obtain ⟨ppa3, ppc3x, rfl⟩ := hp5.t.shape
      refine D_call rfl rfl c2148 rfl ⟨⟨0, rfl⟩, ⟨1, rfl⟩, trivial⟩ (l36to_spec d hb _ _ _ V5 (hd.mono (hv1.trans (hv2.trans (hv3.trans (hv4.trans (hv5))))))) ?_
      rintro _ V6 hv6 ⟨q1, q2, q3, rfl, hq6⟩
      obtain ⟨qqa1, qqc1x, rfl⟩ := hq6.r.shape
      obtain ⟨qqa2, qqc2x, rfl⟩ := hq6.a.shape
      obtain ⟨qqa3, qqc3x, rfl⟩ := hq6.t.shape
      refine D_call rfl rfl c2224 rfl ⟨⟨0, rfl⟩, ⟨1, rfl⟩, trivial⟩ (dclone_spec d hb _ _ _ V6 hq6) ?_
      rintro _ V7 hv7 ⟨r1, r2, r3, rfl, hr7⟩
      obtain ⟨rra1, rrc1x, rfl⟩ := hr7.r.shape
      obtain ⟨rra2, rrc2x, rfl⟩ := hr7.a.shape
      obtain ⟨rra3, rrc3x, rfl⟩ := hr7.t.shape
      refine D_call rfl rfl c2223 rfl ⟨⟨0, rfl⟩, ⟨1, rfl⟩, trivial⟩ (equal36_spec d d hb hb (by omega) (by omega) (by omega) (by show d.ranks.length ≤ 8; omega) (fun p q => p = q) (fun _ _ _ => same_closed rfl) _ _ _ _ _ _ _ (hp5.mono (hv6.trans hv7)) hr7) ?_
      rintro _ V8 hv8 ⟨B, ds, rfl, ⟨gs, ga, gk, gc, rfl⟩, _, hnz⟩
      have hE : eqErr d d = 0 := eqErr_zero hde hde rfl
      rw [hE]
      obtain rfl := self_same (hnz hE)
      refine D_val rfl rfl rfl (R_move rfl) ?_
      refine D_val rfl rfl rfl (R_extract rfl rfl) ?_
      refine D_val rfl rfl rfl (R_extract rfl rfl) ?_
      refine D_val rfl rfl rfl (R_extract rfl rfl) ?_
      refine D_alloc rfl rfl rfl (A_alloc z30) fun b6 => ?_
      refine D_val rfl rfl rfl (R_assign rfl) ?_
      refine D_storeW ty30 0 rfl rfl rfl rfl rfl ⟨⟨0, rfl⟩, ⟨1, rfl⟩, trivial⟩ rfl rfl rfl rfl ?_
      refine D_val rfl rfl rfl (R_assign rfl) ?_
      refine D_done ?_
      refine Q_then ?_
      refine K_seq ?_
      refine K_regionD (fin := false) (R := [0, 2, 1, 3, 4, 5, 6, 7, 8, 9, 10, 11]) (by kernel_rfl) mixed (.cons_cons _ (.cons_cons _ (.cons_cons _ (List.nil_sublist _)))) ?_
      refine D_val rfl rfl rfl (R_loadW ty2129 2 rfl rfl rfl rfl) ?_
      refine D_val rfl rfl rfl (R_loadW ty54 1 rfl rfl rfl rfl) ?_
      refine D_call rfl rfl c2148 rfl ⟨⟨0, rfl⟩, ⟨1, rfl⟩, ⟨2, rfl⟩, trivial⟩ (l36to_spec d hb _ _ _ V8 (hd.mono (hv1.trans (hv2.trans (hv3.trans (hv4.trans (hv5.trans (hv6.trans (hv7.trans (hv8)))))))))) ?_
      rintro _ V9 hv9 ⟨s1, s2, s3, rfl, hs9⟩
      obtain ⟨ssa1, ssc1x, rfl⟩ := hs9.r.shape
      obtain ⟨ssa2, ssc2x, rfl⟩ := hs9.a.shape
      obtain ⟨ssa3, ssc3x, rfl⟩ := hs9.t.shape
      refine D_call rfl rfl c2223 rfl ⟨⟨0, rfl⟩, ⟨1, rfl⟩, ⟨2, rfl⟩, trivial⟩ (equal36_spec d (cmplD d) hb hbC (by omega) (by rw [cmpl_len]; omega) (by omega) (by show d.ranks.length ≤ 8; omega) (fun p q => p = q) (fun _ _ _ => same_closed (at_acc (cmpl_len d) rfl)) _ _ _ _ _ _ _ hs9 (hX.mono (hv5.trans (hv6.trans (hv7.trans (hv8.trans (hv9))))))) ?_
      rintro _ V10 hv10 ⟨B2, ds2, rfl, ⟨ks, ka, kk, kc, rfl⟩, _, hnz2⟩
      have hE2 : eqErr d (cmplD d) = 0 := eqErr_zero hde ((cmpl_err d).trans hde) rfl
      rw [hE2]
      have hDf := hnz2 hE2
      refine D_val rfl rfl rfl (R_move rfl) ?_
      refine D_val rfl rfl rfl (R_extract rfl rfl) ?_
      refine D_val rfl rfl rfl (R_extract rfl rfl) ?_
      refine D_val rfl rfl rfl (R_extract rfl rfl) ?_
      refine D_alloc rfl rfl rfl (A_alloc z30) fun b9 => ?_
      refine D_val rfl rfl rfl (R_assign rfl) ?_
      refine D_storeW ty30 0 rfl rfl rfl rfl rfl ⟨⟨0, rfl⟩, ⟨1, rfl⟩, ⟨2, rfl⟩, trivial⟩ rfl rfl rfl rfl ?_
      refine D_val rfl rfl rfl (R_assign rfl) ?_
      refine D_done ?_
      refine Q_then ?_
      refine K_seq ?_
      refine K_region ?_
      refine KV (R_build z30 pl30 rfl rfl) rfl ?_
      refine KA (A_alloc z30) rfl fun b11 => ?_
      refine K_storeW ty30 0 rfl rfl rfl rfl rfl rfl rfl ?_
      refine K_nil ?_
      refine Q_then ?_
      refine K_seq ?_
      refine K_seq ?_
      refine K_region ?_
      refine KV (R_assign rfl) rfl ?_
      refine K_nil ?_
      refine Q_then ?_
      refine K_block ?_
      refine K_loopD (G := Nat) [12, 43, 44, 45, 46, 47, 48, 49, 50, 51, 52, 53, 54, 55, 56, 57] (fun g => [(12, .int .i64 (g : Int))]) (fun hl g => hl) (fun g => V10) (fun g => (g ≤ d.ranks.length) ∧ (∀ j, j < g → d.ranks.getD j 0 ≠ 0)) (fun g => d.ranks.length - g) 0 ⟨Nat.zero_le _, fun j h => by omega⟩ ⟨rfl, trivial⟩ (by simp only [args0, Nat.reduceAdd, del, memN, beqN, Nat.reduceBEq, cond_true, cond_false]; rfl) rfl rfl ?_
      rintro k ⟨hk, hne⟩
      try dsimp only at hk
      try dsimp only at hne
      dsimp only [List.set, List.cons_append, List.nil_append]
      refine K_seq ?_
      refine K_seq ?_
      refine K_region ?_
      refine KV (R_move rfl) rfl ?_
      refine KV (R_fieldAddr 0 fd2129_0 rfl) rfl ?_
      refine KV (R_loadO ty25 4 rfl rfl rfl rfl (fun _ => rfl) rfl) rfl ?_
      refine KV (R_len sl25 rfl) rfl ?_
      refine KV (R_cmp rfl rfl rfl) rfl ?_
      refine K_nil ?_
      refine Q_then ?_
      refine K_if rfl (fun h47 => ?_) (fun h47 => ?_)
      ·
        have hk' : k < d.ranks.length := by omega
        obtain ⟨rb, ro, hre, rA⟩ := (hd.mono (hv1.trans (hv2.trans (hv3.trans (hv4.trans (hv5.trans (hv6.trans (hv7.trans (hv8.trans (hv9.trans (hv10))))))))))).r.get hk'
        cases hre
        have hge : d.ranks.getD k 0 = d.ranks[k] := by simp [List.getD, hk']
        refine K_skip ?_
        refine Q_then ?_
        refine K_seq ?_
        refine K_block ?_
        refine K_seq ?_
        refine K_region ?_
        refine KV (R_fieldAddr 0 fd2129_0 rfl) rfl ?_
        refine KV (R_loadO ty25 4 rfl rfl rfl rfl (fun _ => rfl) rfl) rfl ?_
        refine KV (R_move rfl) rfl ?_
        refine KV (R_indexN sl25 ty3 rfl rfl (by omega)) rfl ?_
        refine KV (R_loadH ty3 rfl (rA) rfl (fun _ => rfl) rfl) rfl ?_
        refine KV (R_cmp rfl rfl rfl) rfl ?_
        refine K_nil ?_
        refine Q_then ?_
        refine K_if rfl (fun h55 => ?_) (fun h55 => ?_)
        ·
          obtain ⟨rfl, hds⟩ := self_cmpl hDf hk' (hge.trans h55) hne
          refine K_seq ?_
          refine K_region ?_
          refine KV (R_move rfl) rfl ?_
          refine KV (R_fieldAddr 0 fd30_0 rfl) rfl ?_
          refine K_store ty3 0 rfl rfl rfl rfl rfl rfl ?_
          refine K_nil ?_
          refine Q_then ?_
          refine K_exit ?_
          refine Q_block_other rfl ?_
          refine Q_then_exit ?_
          refine Q_then_exit ?_
          refine Q_block_exit ?_
          refine Q_then ?_
          refine K_seq ?_
          refine K_region ?_
          refine KV (R_move rfl) rfl ?_
          refine KV (R_cmp rfl rfl rfl) rfl ?_
          refine K_split ?_ ?_
          ·
            intro h59
            refine KV (R_move rfl) rfl ?_
            refine K_gyes rfl rfl ?_
            refine KV (R_move rfl) rfl ?_
            refine K_gyes rfl rfl ?_
            refine KV (R_cmp rfl rfl rfl) rfl ?_
            refine K_split ?_ ?_
            ·
              intro h62
              refine KV (R_pickT rfl rfl) rfl ?_
              refine KV (R_move rfl) rfl ?_
              refine K_gyes rfl rfl ?_
              refine KV (R_move rfl) rfl ?_
              refine K_gyes rfl rfl ?_
              refine KV (R_cmp rfl rfl rfl) rfl ?_
              refine K_split ?_ ?_
              ·
                intro h66
                refine KV (R_pickT rfl rfl) rfl ?_
                refine KV (R_move rfl) rfl ?_
                refine K_gyes rfl rfl ?_
                refine KV (R_move rfl) rfl ?_
                refine K_splitB ?_ ?_
                ·
                  intro h69
                  refine KV (R_pickT rfl rfl) rfl ?_
                  refine KV (R_move rfl) rfl ?_
                  refine K_gyes rfl rfl ?_
                  refine KV (R_move rfl) rfl ?_
                  refine K_gyes rfl rfl ?_
                  refine KV (R_not rfl) rfl ?_
                  refine K_splitB ?_ ?_
                  ·
                    intro h73
                    refine KV (R_pickT rfl rfl) rfl ?_
                    refine KV (R_move rfl) rfl ?_
                    refine K_gyes rfl rfl ?_
                    refine KV (R_loadW ty30 1 rfl rfl rfl rfl) rfl ?_
                    refine K_gyes rfl rfl ?_
                    refine KV (R_loadW ty30 0 rfl rfl rfl rfl) rfl ?_
                    refine K_gyes rfl rfl ?_
                    refine K_call c2115 rfl rfl (equal_spec 1 (.node (k : Int) []) V10 _ _ (by simp [Tr.size, Tr.sizes]) (by decide) hds (repT_leaf _ _ (by simp only [i64ok]; omega))) ?_
                    rintro _ V11 hv11 rfl
                    refine KV (R_pickT rfl rfl) rfl ?_
                    refine KV (R_assign rfl) rfl ?_
                    refine K_nil ?_
                    refine Q_then ?_
                    refine K_ret ?_
                    refine results_gen (rs := [.tmp 2]) (vs := [_]) rfl ⟨rfl, trivial⟩ ?_
                    rfl
                  ·
                    intro h73
                    exact absurd h73 (by decide)
                ·
                  intro h69
                  exact absurd h69 (by decide)
              ·
                intro h66
                exact absurd (by decide) h66
            ·
              intro h62
              exact absurd (by decide) h62
          ·
            intro h59
            exact absurd (by decide) h59
        ·
          refine K_skip ?_
          refine Q_block ?_
          refine Q_then ?_
          refine K_region ?_
          refine KV (R_move rfl) rfl ?_
          refine KV (R_add rfl rfl (by omega)) rfl ?_
          refine KV (R_assign rfl) rfl ?_
          refine K_nil ?_
          refine Q_nextD (k + 1) ⟨hk', fun j hj => by
            by_cases e : j = k
            · subst e; rw [hge]; exact h55
            · exact hne j (by omega)⟩ (by (try dsimp only); omega) ⟨rfl, trivial⟩ rfl rfl rfl
      ·
        exact absurd (rank0_at hok.rk) fun h => by
          obtain ⟨j, h1, h2⟩ := h
          exact hne j (by omega) h2
end Go.Proofs.X

/-
  From the claims' reading of arguments to what the walks know: trees, slices of ints, the table; and the claims' end. Own work. No statement of the seat is proved here.
-/
namespace Pal
open Go Go.ChangeShapes Go.WideShapes Go.RowKit
section
variable {H : Type} {enc : TypeId × Value → H} {P : Program} {w : World} {sp : Nat → Bool} {held : Bool}

theorem mapM_get {α β : Type} {f : α → Option β} : ∀ {l : List α} {r : List β}, l.mapM f = some r → l.length = r.length ∧ ∀ (i : Nat) (a : α), l[i]? = some a → f a = r[i]?
  | [], r, h => by simp at h; subst h; exact ⟨rfl, fun i a ha => by simp at ha⟩
  | x :: l, r, h => by
    simp only [List.mapM_cons, Option.bind_eq_bind, Option.bind_eq_some_iff, Option.pure_def, Option.some.injEq] at h
    obtain ⟨y, hy, ys, hys, rfl⟩ := h
    obtain ⟨h1, h2⟩ := mapM_get hys
    refine ⟨by simp [h1], fun i a ha => ?_⟩
    cases i with
    | zero => simp at ha; subst ha; simpa using hy
    | succ i => simp at ha; simpa using h2 i a ha
theorem cells_at {a : Addr} {n : Nat} {cs : List Value} (hn : 0 < n) (h : w.cells? 0 a n = some cs) : a = ⟨a.block, a.off, none⟩ ∧ cs.length = n ∧ At (heapOf w) a.block a.off cs := by
  unfold World.cells? at h
  rw [if_pos (Nat.zero_le _)] at h
  obtain ⟨h1, h2⟩ := mapM_get h
  have hlen : cs.length = n := by simpa using h1.symm
  have hget : ∀ i, i < n → w.cell? (a.add i) = cs[i]? := fun i hi => h2 i i (by simp [hi])
  obtain ⟨b, off, spot⟩ := a
  have h0 := hget 0 hn
  have hsome : ∃ v, cs[0]? = some v := ⟨cs[0], by simp⟩
  obtain ⟨v0, hv0⟩ := hsome
  have h0' : w.cell? ⟨b, off, spot⟩ = some v0 := by rw [← hv0]; simpa [Addr.add] using h0
  unfold World.cell? at h0'
  simp only at h0'
  split at h0'
  · rename_i c T fz hb
    cases spot with
    | some s => simp at h0'
    | none =>
      refine ⟨rfl, hlen, c, T, fz, hb, fun j v hj => ?_⟩
      have hjn : j < n := by rw [← hlen]; exact (List.getElem?_eq_some_iff.1 hj).1
      have := hget j hjn
      rw [addr_add, hj] at this
      simpa [World.cell?, hb] using this
  · cases h0'
theorem i64_of_wf {n : Int} (h : (Lit.int .i64 n).wf = true) : i64ok n := by
  simp [Lit.wf, IntKind.min, IntKind.max, IntKind.bits, IntKind.signed] at h
  simp only [i64ok]
  omega
theorem read_int {t : TypeId} {fuel : Nat} {cs : List Value} {x : DataW H × List MemPlace} (ht : P.underlying t = some (.int .i64)) (h : DataW.trod enc P w 0 sp held fuel t cs = some x) : ∃ n, cs = [.int .i64 n] ∧ i64ok n := by
  obtain ⟨n, h1, _, h3⟩ := DataW.trod_int ht h
  exact ⟨n, h1, i64_of_wf h3⟩
/-- A slice whose elements have sz cells. -/
theorem read_slice {t e : TypeId} {sz fuel : Nat} {cs : List Value} {x : DataW H × List MemPlace} (ht : P.underlying t = some (.slice e)) (hce : P.cellsOf e = sz) (hsz : 0 < sz) (h : DataW.trod enc P w 0 sp held fuel t cs = some x) :
    ∃ (a : Option Addr) (len cap b off : Nat) (elems rest : List (DataW H × List MemPlace)) (rc : Nat → List Value), cs = [.slice a len cap] ∧ elems.length = len ∧ (0 < len → a = some ⟨b, off, none⟩) ∧
      (x.1 = .nil ∧ len = 0 ∨ x.1 = .slice (elems.map (·.1)) (rest.map (·.1))) ∧
      ∀ i (hi : i < elems.length), (rc i).length = sz ∧ At (heapOf w) b (off + i * sz) (rc i) ∧ ∃ m, m < fuel ∧ DataW.trod enc P w 0 sp held m e (rc i) = some elems[i] := by
  subst hce
  rcases DataW.trod_slice ht h with ⟨rfl, rfl⟩ | ⟨a, len, cap, elems, rest, n, rfl, rfl, rfl, _, _, _, hlen, hel, _⟩
  · exact ⟨none, 0, 0, 0, 0, [], [], fun _ => [], rfl, rfl, fun h => absurd h (Nat.lt_irrefl _), .inl ⟨rfl, rfl⟩, fun i hi => absurd hi (Nat.not_lt_zero _)⟩
  · have hget : ∀ i (hi : i < elems.length), ∃ ci, w.cells? 0 (a.add (i * P.cellsOf e)) (P.cellsOf e) = some ci ∧ DataW.trod enc P w 0 sp held n e ci = some elems[i] := by
      intro i hi
      have := hel i (hlen ▸ hi)
      rw [List.getElem?_eq_getElem hi] at this
      exact Option.bind_eq_some_iff.1 this
    have hspot : 0 < len → a = ⟨a.block, a.off, none⟩ := by
      intro h0
      obtain ⟨ci, h1, _⟩ := hget 0 (hlen ▸ h0)
      have := (cells_at hsz h1).1
      simpa [Addr.add] using this
    refine ⟨some a, len, cap, a.block, a.off, elems, rest, fun i => (w.cells? 0 (a.add (i * P.cellsOf e)) (P.cellsOf e)).getD [], rfl, hlen, fun h0 => congrArg some (hspot h0), .inr rfl, fun i hi => ?_⟩
    obtain ⟨ci, h1, h2⟩ := hget i hi
    have ha := hspot (by omega)
    simp only [h1, Option.getD_some]
    obtain ⟨_, h4, h5⟩ := cells_at hsz h1
    rw [ha, addr_add] at h5
    exact ⟨h4, h5, n, Nat.lt_succ_self n, h2⟩
theorem At.join {Hv : View} {b off sz : Nat} : ∀ {n : Nat} {rc : Nat → List Value}, 0 < sz → 0 < n → (∀ i, i < n → (rc i).length = sz ∧ At Hv b (off + i * sz) (rc i)) → At Hv b off ((List.range n).flatMap rc) := by
  intro n rc hsz hn h
  obtain ⟨h1, cs, T, fz, hb, h2⟩ := h 0 hn
  refine ⟨cs, T, fz, hb, ?_⟩
  clear h2 h1
  induction n with
  | zero => omega
  | succ n ih =>
    intro j v hj
    rw [List.range_succ, List.flatMap_append] at hj
    have hl : ∀ m, m ≤ n + 1 → ((List.range m).flatMap rc).length = m * sz := by
      intro m hm
      induction m with
      | zero => simp
      | succ m ihm =>
        rw [List.range_succ, List.flatMap_append, List.length_append, ihm (by omega)]
        simp [(h m (by omega)).1, Nat.add_mul]
    have hln := hl n (by omega)
    by_cases hjn : j < n * sz
    · rw [List.getElem?_append_left (by omega)] at hj
      rcases Nat.eq_zero_or_pos n with e | e
      · subst e; simp at hjn
      · exact ih e (fun i hi => h i (by omega)) j v hj
    · rw [List.getElem?_append_right (by omega), hln] at hj
      obtain ⟨_, cs2, T2, fz2, hb2, h4⟩ := h n (by omega)
      rw [hb] at hb2
      cases hb2
      have := h4 (j - n * sz) v (by simpa using hj)
      rw [show off + n * sz + (j - n * sz) = off + j by omega] at this
      exact this
/-- What a measure of readings owes (the rows' own 'uptoBulk'). -/
structure Bulk (f : DataW H → Nat) (g : List (DataW H) → Nat) : Prop where
  agg : ∀ ps, f (.agg ps) = g ps + 1
  sl : ∀ es rs, f (.slice es rs) = g es + g rs + 1
  nil : g [] = 0
  cons : ∀ d r, g (d :: r) = f d + g r
theorem Bulk.sizes {f : DataW H → Nat} {g : List (DataW H) → Nat} (hB : Bulk f g) : ∀ {ts : List Tr} {es : List (DataW H × List MemPlace)}, ts.length = es.length → (∀ i (h : i < ts.length) (h2 : i < es.length), ts[i].size ≤ f es[i].1) → Tr.sizes ts ≤ g (es.map (·.1))
  | [], [], _, _ => by simp [Tr.sizes]
  | t :: ts, e :: es, hl, h => by
    have h0 := h 0 (by simp) (by simp)
    have ih := Bulk.sizes hB (ts := ts) (es := es) (by simpa using hl) (fun i h1 h2 => h (i + 1) (Nat.succ_lt_succ h1) (Nat.succ_lt_succ h2))
    simp only [List.getElem_cons_zero] at h0
    simp only [Tr.sizes, List.map_cons, hB.cons]
    omega
  | [], _ :: _, hl, _ => by simp at hl
  | _ :: _, [], hl, _ => by simp at hl
/-- Arguments read behind a call asx they read before, where no old block was turned. -/
theorem trodAll_stays {W W' : World} (hl : laidOutB P = true) (hsame : ∀ b, b < W.heap.size → W'.heap[b]? = W.heap[b]?) {sp' : Nat → Bool} : ∀ {ts : List TypeId} {vs : List Value} {ds : List (DataW H)} {ps : List MemPlace},
    (∀ t ∈ ts, P.readableRec t = true ∧ t < P.types.size) → DataW.TrodAll enc P W 0 (fun _ => true) true ts vs ds ps → (∀ p ∈ ps, p.block < W.heap.size) → (∀ p ∈ ps, sp' p.block = true) → DataW.TrodAll enc P W' 0 sp' true ts vs ds ps
  | [], [], [], _, _, h, _, _ => h
  | t :: ts, v :: vs, d :: ds, ps, ht, h, hlt, hsp => by
    obtain ⟨p, q, h1, h2, rfl⟩ := h
    obtain ⟨hr, hrow⟩ := ht t (by simp)
    refine ⟨p, q, WideElems.Trod_stays hl hr hrow h1 (fun x hx => ?_) (fun x hx => hsp x (List.mem_append_left _ hx)), trodAll_stays hl hsame (fun t ht' => ht t (by simp [ht'])) h2 (fun x hx => hlt x (List.mem_append_right _ hx)) (fun x hx => hsp x (List.mem_append_right _ hx)), rfl⟩
    have hb := hlt x (List.mem_append_left _ hx)
    cases x with
    | cell b off =>
      have := hsame b hb
      simp [World.sameAt, World.cell?, this]
    | map b => exact hsame b hb
  | [], _ :: _, _, _, _, h, _, _ => by simp [DataW.TrodAll] at h
  | [], [], _ :: _, _, _, h, _, _ => by simp [DataW.TrodAll] at h
  | _ :: _, [], _, _, _, h, _, _ => by simp [DataW.TrodAll] at h
  | _ :: _, _ :: _, [], _, _, h, _, _ => by simp [DataW.TrodAll] at h
/-- 'It returns true; the input reads asx it did.' -/
theorem true_post {fn : Func} {s : ChangeSpec} {apart fresh handsOn again : Bool} {W W' : World} {args : Array Value} {ds gs : List (DataW H)} {before : List MemPlace} {tb : TypeId} {Hv Hv' : View} {hl' : HL}
    (hl : laidOutB P = true) (hpar : ∀ t ∈ fn.params.toList, P.readableRec t = true ∧ t < P.types.size) (hrt : fn.resultTypes = #[tb]) (hu : P.underlying tb = some .bool) (hvs : s.vars = [])
    (hfn : s.fn H ds = { results := [.lit (.bool true)], args := ds }) (hW : DataW.Whole enc P fn.params.toList s.vars apart W args.toList ds gs before) (hok : Ok ⟨W, Hv, []⟩ W' Hv' hl') :
    s.post enc P fn apart fresh handsOn again W args (.bool true) W' := by
  have hsame : ∀ b, b < W.heap.size → W'.heap[b]? = W.heap[b]? := fun b hb => hok.old b hb (by simp)
  have hlt := hW.lt
  obtain ⟨pa, pv, hA, hV, hps, hz, hn⟩ := id hW
  rw [hvs] at hV
  obtain ⟨hgs, hpv⟩ := trodVars_none hV
  subst hgs
  subst hpv
  rw [List.append_nil] at hps
  subst hps
  have hfn' : s.fn H (ds ++ []) = { results := [.lit (.bool true)], args := ds } := by rw [List.append_nil]; exact hfn
  have hres : ∀ (b : Nat) (sp : Nat → Bool) (hd : Bool), DataW.TrodAll enc P W' b sp hd fn.resultTypes.toList ((Value.bool true).resultList fn.resultTypes.size) (s.fn H (ds ++ [])).results [] := by
    intro b sp hd
    rw [hfn', hrt]
    exact trodAll_mk1 ⟨1, by simp [DataW.trod, Value.cells, hu]⟩
  have hargs : ∀ sp : Nat → Bool, (∀ p ∈ before, sp p.block = true) → DataW.TrodAll enc P W' 0 sp true fn.params.toList args.toList (s.fn H (ds ++ [])).args before := by
    intro sp hsp
    rw [hfn']
    exact trodAll_stays hl hsame hpar hA hlt hsp
  have hvars : ∀ sp : Nat → Bool, DataW.TrodVars enc P W' sp s.vars (s.fn H (ds ++ [])).vars [] := by
    intro sp
    rw [hfn', hvs]
    rfl
  have hk : ∀ may : MemPlace → Prop, W.keptBut W' may := by
    intro may
    refine ⟨hok.os, hok.output, fun i hi => ?_⟩
    rw [hsame i hi]
    cases hw : W.heap[i]? with
    | none => rfl
    | some o => cases o <;> simp
  have hold : ∀ p ∈ before, (fun b => decide (b < W.heap.size)) p.block = true := fun p hp => by simpa using hlt p hp
  have hfz : ∀ b off, MemPlace.cell b off ∈ before → W'.frozen? ⟨b, off, none⟩ = false := by
    intro b off hp
    rw [← hz b off hp]
    simp [World.frozen?, hsame b (hlt _ hp)]
  refine ⟨ds, [], before, [], before, [], hW, hres _ _ _, hargs _ hold, hvars _, hk _, fun _ => ⟨ok_one hrt rfl (okWide_bool_mk hu true), _, _, ([] ++ before) ++ [], ⟨[] ++ before, [], trodAll_append (hargs _ (fun _ _ => rfl)) (hres _ _ _), hvars _, rfl, ?_, ?_⟩, ?_⟩⟩
  · intro b off hp
    exact hfz b off (by simpa using hp)
  · intro ha
    have := hn ha
    simpa using this
  · intro p hp _
    simpa using hp
end
end Pal

/-
  Reading arguments, by their types: slices, rules, automata. Own work. No statement of the seat is proved here.
-/
namespace Pal
open Go Go.ChangeShapes Go.WideShapes Go.RowKit
section
variable {H : Type} {enc : TypeId × Value → H} {P : Program} {w : World} {sp : Nat → Bool} {held : Bool}
/-- Every reading at type t is of some y, laid asx R says, and no greater than B says of the reading's measure. -/
def RdAt {α : Type} (enc : TypeId × Value → H) (P : Program) (w : World) (sp : Nat → Bool) (held : Bool) (f : DataW H → Nat) (t : TypeId) (R : α → List Value → Prop) (B : α → Nat → Prop) : Prop :=
  ∀ (fuel : Nat) (cs : List Value) (x : DataW H × List MemPlace), DataW.trod enc P w 0 sp held fuel t cs = some x → ∃ y, R y cs ∧ B y (f x.1)
structure Bulk1 (f : DataW H → Nat) (g : List (DataW H) → Nat) : Prop where
  b : Bulk f g
  pos : ∀ d, 1 ≤ f d
theorem Bulk1.len {f : DataW H → Nat} {g : List (DataW H) → Nat} (hB : Bulk1 f g) : ∀ ds : List (DataW H), ds.length ≤ g ds
  | [] => by simp
  | d :: r => by have := hB.len r; have := hB.pos d; rw [hB.b.cons, List.length_cons]; omega
theorem Bulk1.mem {f : DataW H → Nat} {g : List (DataW H) → Nat} (hB : Bulk1 f g) : ∀ {ds : List (DataW H)} {d : DataW H}, d ∈ ds → f d ≤ g ds
  | [], _, h => by cases h
  | e :: r, d, h => by
    rw [hB.b.cons]
    rcases List.mem_cons.1 h with rfl | h
    · omega
    · have := hB.mem h; omega
theorem rd_int {f : DataW H → Nat} {t : TypeId} (ht : P.underlying t = some (.int .i64)) : RdAt enc P w sp held f t RI (fun _ _ => True) := by
  intro fuel cs x h
  obtain ⟨n, h1, h2⟩ := read_int ht h
  exact ⟨n, ⟨h2, h1⟩, trivial⟩
theorem rd_bool {f : DataW H → Nat} {t : TypeId} (ht : P.underlying t = some .bool) : RdAt enc P w sp held f t RB (fun _ _ => True) := by
  intro fuel cs x h
  obtain ⟨b, h1, _⟩ := DataW.trod_bool ht h
  exact ⟨b, h1, trivial⟩
def RSl {α : Type} (Hv : View) (R : α → List Value → Prop) (sz : Nat) (xs : List α) (cs : List Value) : Prop := ∃ v cells, cs = [v] ∧ SlAt Hv v xs.length cells ∧ RepL R sz xs cells
def BSl {α : Type} (B : α → Nat → Prop) (xs : List α) (n : Nat) : Prop := xs.length ≤ n ∧ ∀ x ∈ xs, B x n
theorem repL_range {α : Type} {R : α → List Value → Prop} {sz : Nat} {T : Nat → α} {rc : Nat → List Value} : ∀ {n : Nat}, (∀ i, i < n → R (T i) (rc i) ∧ (rc i).length = sz) → RepL R sz ((List.range n).map T) ((List.range n).flatMap rc)
  | 0, _ => .nil
  | n + 1, h => by
    rw [range_map_succ, List.range_succ, List.flatMap_append]
    simp only [List.flatMap_cons, List.flatMap_nil, List.append_nil]
    exact (repL_range fun i hi => h i (by omega)).snoc (h n (by omega)).1 (h n (by omega)).2
theorem rd_slice {α : Type} [Inhabited α] {f : DataW H → Nat} {g : List (DataW H) → Nat} (hB : Bulk1 f g) {t e : TypeId} {sz : Nat} {R : α → List Value → Prop} {B : α → Nat → Prop} (hm : ∀ y n m, n ≤ m → B y n → B y m) (ht : P.underlying t = some (.slice e)) (hce : P.cellsOf e = sz) (hsz : 0 < sz)
    (hR : RdAt enc P w sp held f e R B) : RdAt enc P w sp held f t (RSl (heapOf w) R sz) (BSl B) := by
  intro fuel cs x h
  obtain ⟨a, len, cap, b, off, elems, rest, rc, rfl, hlen, ha, hx, hel⟩ := read_slice ht hce hsz h
  have hsub : ∀ i (hi : i < elems.length), ∃ y, R y (rc i) ∧ B y (f elems[i].1) := by
    intro i hi
    obtain ⟨_, _, m, _, h3⟩ := hel i hi
    exact hR m _ _ h3
  let T : Nat → α := fun i => if h : i < elems.length then Classical.choose (hsub i h) else default
  have hT : ∀ i (hi : i < elems.length), R (T i) (rc i) ∧ B (T i) (f elems[i].1) := by
    intro i hi
    simp only [T, hi, dif_pos]
    exact Classical.choose_spec (hsub i hi)
  refine ⟨(List.range len).map T, ⟨_, (List.range len).flatMap rc, rfl, ⟨a, cap, by simp, ?_⟩, repL_range fun i hi => ⟨(hT i (by omega)).1, (hel i (by omega)).1⟩⟩, ?_, ?_⟩
  · rcases Nat.eq_zero_or_pos len with h0 | h0
    · subst h0; exact .inl ⟨by simp, by simp⟩
    · exact .inr ⟨b, off, ha h0, At.join hsz h0 fun i hi => ⟨(hel i (by omega)).1, (hel i (by omega)).2.1⟩⟩
  · rw [List.length_map, List.length_range]
    rcases hx with ⟨_, h0⟩ | hx
    · omega
    · rw [hx, hB.b.sl]
      have := hB.len (elems.map (·.1))
      rw [List.length_map] at this
      omega
  · intro y hy
    obtain ⟨i, hi, rfl⟩ := List.mem_map.1 hy
    have hi' := List.mem_range.1 hi
    refine hm _ _ _ ?_ (hT i (by omega)).2
    rcases hx with ⟨_, h0⟩ | hx
    · omega
    · rw [hx, hB.b.sl]
      have := hB.mem (List.mem_map_of_mem (f := fun (p : DataW H × List MemPlace) => p.1) (List.getElem_mem (show i < elems.length by omega)))
      omega
/-- A struct's fields, each at its own place, one cell each. -/
def FldT (P : Program) (fd : Field) (t : TypeId) (o : Nat) : Prop := fd.type = t ∧ fd.offset = o
theorem RSl.si {Hv : View} {xs : List Int} {cs : List Value} (h : RSl Hv RI 1 xs cs) : ∃ v, cs = [v] ∧ SI Hv v xs := by
  obtain ⟨v, cells, rfl, h1, h2⟩ := h
  obtain ⟨rfl, h3⟩ := h2.eq_ints
  exact ⟨v, rfl, h1, h3⟩
theorem RepL.eq_bools {xs : List Bool} {cells : List Value} (h : RepL RB 1 xs cells) : cells = bools xs := by
  induction h with
  | nil => rfl
  | cons h _ _ ih => rw [h, ih]; rfl
theorem RSl.sb {Hv : View} {xs : List Bool} {cs : List Value} (h : RSl Hv RB 1 xs cs) : ∃ v, cs = [v] ∧ SB Hv v xs := by
  obtain ⟨v, cells, rfl, h1, h2⟩ := h
  have := h2.eq_bools
  subst this
  exact ⟨v, rfl, h1⟩
theorem RSl.ssi {Hv : View} {xss : List (List Int)} {cs : List Value} (h : RSl Hv (RSl Hv RI 1) 1 xss cs) : ∃ v, cs = [v] ∧ SSI Hv v xss := by
  obtain ⟨v, cells, rfl, h1, h2⟩ := h
  exact ⟨v, rfl, cells, h1, h2.imp fun xs cs hx => by
    obtain ⟨u, h3, h4⟩ := hx.si
    exact ⟨u, h3, h4⟩⟩
instance : Inhabited Rl := ⟨⟨0, [], 0⟩⟩
/-- ranks, final, to -/
structure DtaT (P : Program) (t ts tb tss ti tbool : TypeId) : Prop where
  u : ∃ f1 f2 f3 : Field, P.underlying t = some (.struct #[f1, f2, f3]) ∧ FldT P f1 ts 0 ∧ FldT P f2 tb 1 ∧ FldT P f3 tss 2
  us : P.underlying ts = some (.slice ti)
  ub : P.underlying tb = some (.slice tbool)
  uss : P.underlying tss = some (.slice ts)
  ui : P.underlying ti = some (.int .i64)
  ubo : P.underlying tbool = some .bool
  ct : P.cellsOf t = 3
  cs : P.cellsOf ts = 1
  cb : P.cellsOf tb = 1
  css : P.cellsOf tss = 1
  ci : P.cellsOf ti = 1
  cbo : P.cellsOf tbool = 1
theorem rd_dta {f : DataW H → Nat} {g : List (DataW H) → Nat} (hB : Bulk1 f g) {t ts tb tss ti tbool : TypeId} (hT : DtaT P t ts tb tss ti tbool) : RdAt (α := Dt) enc P w sp held f t (fun d cs => ∃ v1 v2 v3, cs = [v1, v2, v3] ∧ RepDt (heapOf w) d v1 v2 v3)
    (fun d n => d.ranks.length ≤ n ∧ d.acc.length ≤ n ∧ d.to.length ≤ n ∧ ∀ x ∈ d.to, x.length ≤ n) := by
  obtain ⟨f1, f2, f3, hu, ⟨t1, o1⟩, ⟨t2, o2⟩, ⟨t3, o3⟩⟩ := hT.u
  intro fuel cs x h
  obtain ⟨xs, n, rfl, rfl, hcl, hxl, hxs⟩ := DataW.trod_struct hu h
  rw [hT.ct] at hcl
  obtain ⟨c0, c1, c2, rfl⟩ : ∃ c0 c1 c2, cs = [c0, c1, c2] := by
    match cs, hcl with
    | [a, b, c], _ => exact ⟨a, b, c, rfl⟩
  obtain ⟨y0, y1, y2, rfl⟩ : ∃ y0 y1 y2, xs = [y0, y1, y2] := by
    match xs, hxl with
    | [a, b, c], _ => exact ⟨a, b, c, rfl⟩
  have h0 := hxs 0 f1 rfl
  have h1 := hxs 1 f2 rfl
  have h2 := hxs 2 f3 rfl
  rw [t1, o1, hT.cs] at h0
  rw [t2, o2, hT.cb] at h1
  rw [t3, o3, hT.css] at h2
  obtain ⟨rs, hr, hrb, _⟩ := rd_slice hB (fun _ _ _ _ _ => trivial) hT.us hT.ci (by decide) (rd_int hT.ui) _ _ _ h0
  obtain ⟨bs, hbs, hbb, _⟩ := rd_slice hB (fun _ _ _ _ _ => trivial) hT.ub hT.cbo (by decide) (rd_bool hT.ubo) _ _ _ h1
  obtain ⟨ts', hts, htb, htb2⟩ := rd_slice (B := BSl fun _ _ => True) hB (fun _ _ _ h1 h2 => ⟨Nat.le_trans h2.1 h1, h2.2⟩) hT.uss hT.cs (by decide) (rd_slice hB (fun _ _ _ _ _ => trivial) hT.us hT.ci (by decide) (rd_int hT.ui)) _ _ _ h2
  obtain ⟨v1, e0, hv1⟩ := hr.si
  obtain ⟨v2, e1, hv2⟩ := hbs.sb
  obtain ⟨v3, e2, hv3⟩ := hts.ssi
  have e0' : c0 = v1 := by simpa using e0
  have e1' : c1 = v2 := by simpa using e1
  have e2' : c2 = v3 := by simpa using e2
  subst e0' e1' e2'
  have hsum : f (.agg ([y0, y1, y2].map (·.1))) = f y0.1 + (f y1.1 + (f y2.1 + 0)) + 1 := by
    simp only [List.map_cons, List.map_nil, hB.b.agg, hB.b.cons, hB.b.nil]
  refine ⟨⟨rs, bs, ts'⟩, ⟨_, _, _, rfl, hv1, hv2, hv3⟩, ?_⟩
  dsimp only
  rw [hsum]
  exact ⟨by omega, by omega, by omega, fun x hx => by have := (htb2 x hx).1; omega⟩
theorem agg_of {v : Value} {cs : List Value} (h : v.cells.toList = cs) (hl : cs.length ≠ 1) : v = .agg cs.toArray := by
  subst h
  cases v with
  | agg c => rfl
  | _ => exact absurd rfl hl
end
end Pal
