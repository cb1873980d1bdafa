/-
  Proved: the statement EmptinessCountUptoCardSaid: for any deterministic automaton and any int, the law palmettelaw36.EmptinessCount returns true and leaves its arguments as they were.
  Conditions: those of the given row alone: arguments of at most 1048576 values in all, and the table of math/bits as the program lays it (the card ties it to the text).
-/
import Derived.Test.YtglmnochbdpmaaaGreatDoorPart5
import Derived.Test.YtglmnochbdpmaaaGreatDoorPart2
import Derived.Stop.LaidErr
import Derived.Test.YtglmnochbdpmaaaGreatDoorCards
import Derived.Test.YtglmnochbdpmaaaGreatDoorTie
import Derived.WalkKit
import Derived.ProofKit
import Derived.OpenShut
import Derived.Deep.DeepHandedRow
import Derived.Lib.LaidTab
namespace Go.Proofs.YtglmnochbdpmaaaGreatDoor.emptinessCount
open Go Go.ChangeShapes Go.WideShapes Go.ChangeAt Go.RowKit Pal Go.Proofs

theorem own : ownKnob Tryz.prog.godebug = none := by kernel_rfl
theorem lay : laidOutB Tryz.prog = true := by kernel_rfl
theorem gTab : Tryz.prog.globalNamed "internal/strconv.uint64pow10" = some 0 := by kernel_rfl
theorem gTabType : (Tryz.prog.globals[0]?).map (·.type) = some 168 := by kernel_rfl
theorem cellsTb : Tryz.prog.cellsOf 168 = 20 := by kernel_rfl
theorem cellsU64 : Tryz.prog.cellsOf 66 = 1 := by kernel_rfl
theorem laidPart {W : World} {x y : String × DataW Unit} {r : List (String × DataW Unit)} (h : laidMet Tryz.prog (x :: y :: r) W) : laidMet Tryz.prog r W := laidMet.tail (laidMet.tail h)
theorem table {W : World} (h : laidMetH Tryz.prog Rows.emptinessCountUptoRow.laid W) : TabN Tryz.prog (heapOf W) :=
  TabN.of (Lib.tabIs_of_head (rest := []) gTab gTabType Tryz.underlying168 Tryz.underlying66 cellsU64 cellsTb (laidPart (show laidMet Tryz.prog Rows.emptinessCountUptoRow.laid W from h)))
theorem bulk (H : Type) : Bulk (H := H) Rows.uptoBulk Rows.uptoBulkAll := ⟨fun _ => rfl, fun _ _ => rfl, rfl, fun _ _ => rfl⟩
theorem bulk1 (H : Type) : Bulk1 (H := H) Rows.uptoBulk Rows.uptoBulkAll := ⟨bulk H, fun d => by cases d <;> first | (rename_i l; cases l <;> simp [Rows.uptoBulk]) | simp [Rows.uptoBulk]⟩
theorem dtaT : DtaT Tryz.prog 26 22 23 24 3 4 := ⟨⟨_, _, _, Tryz.underlying26, ⟨rfl, rfl⟩, ⟨rfl, rfl⟩, ⟨rfl, rfl⟩⟩, by kernel_rfl, by kernel_rfl, by kernel_rfl, by kernel_rfl, by kernel_rfl, by kernel_rfl, by kernel_rfl, by kernel_rfl, by kernel_rfl, by kernel_rfl, by kernel_rfl⟩
set_option maxRecDepth 100000 in
theorem par : ∀ t ∈ Tryz.f3.params.toList, Tryz.prog.readableRec t = true ∧ t < Tryz.prog.types.size := by
  intro t ht
  rw [Tryz.params3] at ht
  have hs : ∀ k, Nat.ble (k + 1) Tryz.prog.types.size = true → k < Tryz.prog.types.size := fun k h => Nat.le_of_ble_eq_true h
  have r3 : Tryz.prog.readableRec 3 = true ∧ 3 < Tryz.prog.types.size := ⟨by kernel_rfl, hs 3 (by kernel_rfl)⟩
  have r26 : Tryz.prog.readableRec 26 = true ∧ 26 < Tryz.prog.types.size := ⟨by kernel_rfl, hs 26 (by kernel_rfl)⟩
  simp at ht
  rcases ht with rfl | rfl
  all_goals first | exact r3 | exact r26
set_option maxRecDepth 100000 in
theorem contract (H : Type) (enc : TypeId × Value → H) (W : World) (base : Nat) (args : Array Value) (ds gs : List (DataW H)) (before : List MemPlace)
    (hval : ∀ (j : Nat) t v, Tryz.f3.params[j]? = some t → args[j]? = some v → Value.okWide Tryz.prog W .any base t v)
    (hW : DataW.Whole enc Tryz.prog Tryz.f3.params.toList Rows.emptinessCountSpec.vars false W args.toList ds gs before) (hL : laidMetH Tryz.prog Rows.emptinessCountUptoRow.laid W) (hb : Rows.uptoBulkAll (ds ++ gs) ≤ 1048576) :
    Calls Tryz.prog 3 args W fun e W' => ∃ v, e = .returned v ∧ Rows.emptinessCountSpec.post enc Tryz.prog Tryz.f3 false true false false W args v W' := by
  have hW' := hW
  obtain ⟨p, q, hA0, hV, rfl, hfz, hnd⟩ := hW
  have hA : DataW.TrodAll enc Tryz.prog W 0 (fun _ => true) true Tryz.f3.params.toList args.toList ds p := hA0
  rw [Tryz.params3] at hA hval
  obtain ⟨v0, vs0, d0, ds0, p0, q0, hargs, rfl, rfl, ⟨fu0, h0⟩, r0⟩ := trodAll_cons hA
  obtain ⟨v1, vs1, d1, ds1, p1, q1, rfl, rfl, rfl, ⟨fu1, h1⟩, r1⟩ := trodAll_cons r0
  obtain ⟨rfl, rfl, rfl⟩ := trodAll_nil r1
  obtain rfl : args = #[v0, v1] := by cases args; simp_all
  have hgs : gs = [] := (trodVars_none hV).1
  rw [hgs, List.append_nil] at hb
  simp only [Rows.uptoBulkAll] at hb
  obtain ⟨a0, ⟨vr0, va0, vt0, hc0, hrep0⟩, b10, b20, b30, b40⟩ := rd_dta (bulk1 H) dtaT _ _ _ h0
  obtain rfl := agg_of hc0 (by simp)
  have hsm0 : a0.ranks.length ≤ 1048576 ∧ a0.acc.length ≤ 1048576 ∧ a0.to.length ≤ 1048576 ∧ ∀ x ∈ a0.to, x.length ≤ 1048576 := ⟨by dsimp only at b10; omega, by dsimp only at b20; omega, by dsimp only at b30; omega, fun r hr => by have := b40 r hr; dsimp only at this; omega⟩
  obtain ⟨n1, hn1, hok1⟩ := read_int Tryz.underlying3 h1
  have e1 : v1 = .int .i64 n1 := okw_cell (.inr ⟨_, Tryz.underlying3⟩) (hval 1 3 v1 (by simp) (by simp)) hn1
  subst e1
  have hHas : Has W (heapOf W) [] := ⟨fun _ _ h => h, fun _ he => (by cases he), fun _ hb => (by simp [feet] at hb), by simp [feet]⟩
  have hlaw := X.count_law a0 hsm0 n1 vr0 va0 vt0 (heapOf W) hrep0 (table hL)
  refine Calls.mono (hlaw W hHas) ?_
  rintro e W' ⟨v, H', hl', rfl, hok, rfl⟩
  exact ⟨_, rfl, true_postZ lay par (by kernel_rfl) Tryz.underlying4 rfl rfl hW' (by simpa [feet] using hok)⟩
noncomputable def laidWorld (os : Os) : World :=
  { World.holding Tryz.prog os ⟨#[], #[], []⟩ with heap := ((((World.holding Tryz.prog os ⟨#[], #[], []⟩).heap.modify 2 fun
      | .cells _ t frozen => .cells #[.int .u8 0, .int .u8 1, .int .u8 28, .int .u8 2, .int .u8 29, .int .u8 14, .int .u8 24, .int .u8 3, .int .u8 30, .int .u8 22, .int .u8 20, .int .u8 15, .int .u8 25, .int .u8 17, .int .u8 4, .int .u8 8, .int .u8 31, .int .u8 27, .int .u8 13, .int .u8 23, .int .u8 21, .int .u8 19, .int .u8 16, .int .u8 7, .int .u8 26, .int .u8 12, .int .u8 18, .int .u8 6, .int .u8 11, .int .u8 5, .int .u8 10, .int .u8 9] t frozen
      | o => o).modify 3 fun
      | .cells _ t frozen => .cells #[.int .u8 0, .int .u8 1, .int .u8 56, .int .u8 2, .int .u8 57, .int .u8 49, .int .u8 28, .int .u8 3, .int .u8 61, .int .u8 58, .int .u8 42, .int .u8 50, .int .u8 38, .int .u8 29, .int .u8 17, .int .u8 4, .int .u8 62, .int .u8 47, .int .u8 59, .int .u8 36, .int .u8 45, .int .u8 43, .int .u8 51, .int .u8 22, .int .u8 53, .int .u8 39, .int .u8 33, .int .u8 30, .int .u8 24, .int .u8 18, .int .u8 12, .int .u8 5, .int .u8 63, .int .u8 55, .int .u8 48, .int .u8 27, .int .u8 60, .int .u8 41, .int .u8 37, .int .u8 16, .int .u8 46, .int .u8 35, .int .u8 44, .int .u8 21, .int .u8 52, .int .u8 32, .int .u8 23, .int .u8 11, .int .u8 54, .int .u8 26, .int .u8 40, .int .u8 15, .int .u8 34, .int .u8 20, .int .u8 31, .int .u8 10, .int .u8 25, .int .u8 14, .int .u8 19, .int .u8 9, .int .u8 13, .int .u8 8, .int .u8 7, .int .u8 6] t frozen
      | o => o).modify 0 fun
      | .cells _ t frozen => .cells #[.int .u64 1, .int .u64 10, .int .u64 100, .int .u64 1000, .int .u64 10000, .int .u64 100000, .int .u64 1000000, .int .u64 10000000, .int .u64 100000000, .int .u64 1000000000, .int .u64 10000000000, .int .u64 100000000000, .int .u64 1000000000000, .int .u64 10000000000000, .int .u64 100000000000000, .int .u64 1000000000000000, .int .u64 10000000000000000, .int .u64 100000000000000000, .int .u64 1000000000000000000, .int .u64 10000000000000000000] t frozen
      | o => o) }
def wargs : Array Value := #[.agg #[.slice none 0 0, .slice none 0 0, .slice none 0 0], .int .i64 0]
theorem laid_met (os : Os) : laidMet Tryz.prog Rows.emptinessCountUptoRow.laid ((laidWorld os).forCall (fun _ _ => 0) ⟨#[], wargs, []⟩).memory :=
  laidMet_of_run' 8 (by kernel_rfl) (by kernel_rfl)
theorem reads (os : Os) {H : Type} (enc : TypeId × Value → H) : ∃ places, DataW.whole enc Tryz.prog ((laidWorld os).forCall (fun _ _ => 0) ⟨#[], wargs, []⟩).memory Tryz.f3.params.toList Rows.emptinessCountSpec.vars false wargs.toList 8 = some ([.agg [.nil, .nil, .nil], .lit (.int .i64 0)], [], places) :=
  ⟨[], by kernel_rfl⟩
set_option maxRecDepth 100000 in
theorem liftedUpto (os : Os) (started : os.Started) (H : Type) (enc : TypeId × Value → H) (F : Stop.Interp) :
    ReturnsInHanded {} Tryz.checked os 3 .any ((Rows.OpenSpec.upto Rows.emptinessCountSpec).preRow enc Tryz.prog Tryz.f3 Rows.emptinessCountUptoRow.domain false Rows.emptinessCountUptoRow.laid) (((Rows.OpenSpec.upto Rows.emptinessCountSpec).at F).post enc Tryz.prog Tryz.f3 false true false false) := by
  obtain ⟨places, hx⟩ := reads os enc
  refine returnsInHanded_of_row (C := Tryz.checked) (s := Rows.OpenSpec.upto Rows.emptinessCountSpec) own started (by kernel_rfl) Tryz.func3
    (witness_row_at (enc := enc) (C := Tryz.checked) false (laidWorld os) wargs rfl (by kernel_rfl) (by kernel_rfl) (by kernel_rfl)
      (OpenSpec.preRow_of_cond 8 hx (by kernel_rfl) (fun k hk => by cases hk; kernel_rfl) (by kernel_rfl) (laid_met os))) ?_
  intro W base args ds gs before hval hW _ hcond _ hL _ _
  exact contract H enc W base args ds gs before hval hW hL (of_decide_eq_true (hcond _ rfl))
theorem saidUpto : Rows.EmptinessCountUptoSaid :=
  OpenClaim.holds_of_cond 3 Tryz.f3 rfl rfl rfl rfl rfl rfl rfl ⟨rfl, rfl, rfl, rfl, rfl⟩ rfl rfl rfl rfl rfl (by kernel_rfl) Tryz.func3 (by kernel_rfl)
    (of_decide_eq_true (by kernel_rfl)) (by unfold Func.isWrapper; first | (rw [if_pos (by decide +kernel)]; kernel_rfl) | (rw [if_neg (by decide +kernel)]; exact ⟨rfl, rfl⟩))
    (fun os started H enc _ F => by rw [OpenClaim.pre_eq_preRow]; exact liftedUpto os started H enc F)
set_option maxRecDepth 100000 in
theorem plain (f : FuncId) (fn : Func) (hf : Tryz.pinned.checked.prog.funcNamed "palmette/palmettelaw36.EmptinessCount" = some f) (hfn : Tryz.pinned.checked.prog.funcs[f]? = some fn) :
    false = Tryz.pinned.checked.prog.looks [] ∧ ∀ (j : Nat) t, fn.params[j]? = some t → Tryz.pinned.checked.prog.wantsStandIn t = false := by
  obtain rfl : f = 3 := Option.some.inj ((show Tryz.prog.funcNamed "palmette/palmettelaw36.EmptinessCount" = some 3 by kernel_rfl).symm.trans hf) |>.symm
  obtain rfl : fn = Tryz.f3 := (Option.some.inj (Tryz.func3.symm.trans hfn)).symm
  refine ⟨by kernel_rfl, fun j t ht => ?_⟩
  rw [Tryz.params3] at ht
  have hm := Array.mem_of_getElem? ht
  have r3 : Tryz.prog.wantsStandIn 3 = false := by kernel_rfl
  have r26 : Tryz.prog.wantsStandIn 26 = false := by kernel_rfl
  simp at hm
  rcases hm with rfl | rfl
  all_goals first | exact r3 | exact r26
theorem cardUpto : Rows.EmptinessCountUptoCardSaid :=
  Claim7.holds_tied_plain_at .later [] _ _ _ _ saidUpto (fun _ h => by cases h) (by kernel_rfl) (fun _ h => by cases h) emptinessCountUpto_row_tie rfl ⟨rfl, rfl⟩ (by kernel_rfl) rfl plain (by kernel_rfl)
end Go.Proofs.YtglmnochbdpmaaaGreatDoor.emptinessCount
