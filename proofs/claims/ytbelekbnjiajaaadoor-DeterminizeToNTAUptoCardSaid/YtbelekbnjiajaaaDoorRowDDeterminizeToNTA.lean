/-
  Proved: the statement DeterminizeToNTAUptoCardSaid: for any deterministic automaton, the law palmettelaw34.DeterminizeToNTA returns true and leaves its argument as it was.
  Conditions: those of the given row alone: arguments of at most 1048576 values in all, and the table of math/bits as the program lays it (the card ties it to the text).
-/
import Derived.Test.YtbelekbnjiajaaaDoorPart4
import Derived.Test.YtbelekbnjiajaaaDoorPalRd
import Derived.Test.YtbelekbnjiajaaaDoorCards
import Derived.Test.YtbelekbnjiajaaaDoorTie
import Derived.WalkKit
import Derived.ProofKit
import Derived.OpenShut
import Derived.Deep.DeepHandedRow
import Derived.Lib.LaidTab
namespace Go.Proofs.YtbelekbnjiajaaaDoor.determinizeToNTA
open Go Go.ChangeShapes Go.WideShapes Go.ChangeAt Go.RowKit Pal Go.Proofs

theorem own : ownKnob Tryd.prog.godebug = none := by kernel_rfl
theorem lay : laidOutB Tryd.prog = true := by kernel_rfl
theorem gTab : Tryd.prog.globalNamed "math/bits.deBruijn64tab" = some 0 := by kernel_rfl
theorem gTabType : (Tryd.prog.globals[0]?).map (·.type) = some 155 := by kernel_rfl
theorem cellsTb : Tryd.prog.cellsOf 155 = 64 := by kernel_rfl
theorem cellsU8 : Tryd.prog.cellsOf 5 = 1 := by kernel_rfl
theorem table {W : World} (h : laidMetH Tryd.prog Rows.determinizeToNTAUptoRow.laid W) : Tab (heapOf W) :=
  tab_of (Lib.tabIs_of_head (rest := []) gTab gTabType Tryd.underlying155 Tryd.underlying5 cellsU8 cellsTb h) gTab
theorem bulk (H : Type) : Bulk (H := H) Rows.uptoBulk Rows.uptoBulkAll := ⟨fun _ => rfl, fun _ _ => rfl, rfl, fun _ _ => rfl⟩
theorem bulk1 (H : Type) : Bulk1 (H := H) Rows.uptoBulk Rows.uptoBulkAll := ⟨bulk H, fun d => by cases d <;> first | (rename_i l; cases l <;> simp [Rows.uptoBulk]) | simp [Rows.uptoBulk]⟩
theorem dtaT : DtaT Tryd.prog 63 25 52 44 3 4 := ⟨⟨_, _, _, Tryd.underlying63, ⟨rfl, rfl⟩, ⟨rfl, rfl⟩, ⟨rfl, rfl⟩⟩, by kernel_rfl, by kernel_rfl, by kernel_rfl, by kernel_rfl, by kernel_rfl, by kernel_rfl, by kernel_rfl, by kernel_rfl, by kernel_rfl, by kernel_rfl, by kernel_rfl⟩
set_option maxRecDepth 100000 in
theorem par : ∀ t ∈ Tryd.f5.params.toList, Tryd.prog.readableRec t = true ∧ t < Tryd.prog.types.size := by
  intro t ht
  rw [Tryd.params5] at ht
  have hs : ∀ k, Nat.ble (k + 1) Tryd.prog.types.size = true → k < Tryd.prog.types.size := fun k h => Nat.le_of_ble_eq_true h
  have r63 : Tryd.prog.readableRec 63 = true ∧ 63 < Tryd.prog.types.size := ⟨by kernel_rfl, hs 63 (by kernel_rfl)⟩
  simp at ht
  subst ht
  exact r63
set_option maxRecDepth 100000 in
theorem contract (H : Type) (enc : TypeId × Value → H) (W : World) (base : Nat) (args : Array Value) (ds gs : List (DataW H)) (before : List MemPlace)
    (hval : ∀ (j : Nat) t v, Tryd.f5.params[j]? = some t → args[j]? = some v → Value.okWide Tryd.prog W .any base t v)
    (hW : DataW.Whole enc Tryd.prog Tryd.f5.params.toList Rows.determinizeToNTASpec.vars false W args.toList ds gs before) (hL : laidMetH Tryd.prog Rows.determinizeToNTAUptoRow.laid W) (hb : Rows.uptoBulkAll (ds ++ gs) ≤ 1048576) :
    Calls Tryd.prog 5 args W fun e W' => ∃ v, e = .returned v ∧ Rows.determinizeToNTASpec.post enc Tryd.prog Tryd.f5 false true false false W args v W' := by
  have hW' := hW
  obtain ⟨p, q, hA0, hV, rfl, hfz, hnd⟩ := hW
  have hA : DataW.TrodAll enc Tryd.prog W 0 (fun _ => true) true Tryd.f5.params.toList args.toList ds p := hA0
  rw [Tryd.params5] at hA hval
  obtain ⟨v0, vs0, d0, ds0, p0, q0, hargs, rfl, rfl, ⟨fu0, h0⟩, r0⟩ := trodAll_cons hA
  obtain ⟨rfl, rfl, rfl⟩ := trodAll_nil r0
  obtain rfl : args = #[v0] := by cases args; simp_all
  have hgs : gs = [] := (trodVars_none hV).1
  rw [hgs, List.append_nil] at hb
  simp only [Rows.uptoBulkAll] at hb
  obtain ⟨a0, ⟨vr0, va0, vt0, hc0, hrep0⟩, b10, b20, b30, b40⟩ := rd_dta (bulk1 H) dtaT _ _ _ h0
  obtain rfl := agg_of hc0 (by simp)
  have hsm0 : a0.ranks.length ≤ 1048576 ∧ a0.acc.length ≤ 1048576 ∧ a0.to.length ≤ 1048576 ∧ ∀ x ∈ a0.to, x.length ≤ 1048576 := ⟨by dsimp only at b10; omega, by dsimp only at b20; omega, by dsimp only at b30; omega, fun r hr => by have := b40 r hr; dsimp only at this; omega⟩
  have hHas : Has W (heapOf W) [] := ⟨fun _ _ h => h, fun _ he => (by cases he), fun _ hb => (by simp [feet] at hb), by simp [feet]⟩
  have hlaw := X.tonta_law a0 vr0 va0 vt0 (heapOf W) (table hL) hrep0 hsm0
  refine Calls.mono (hlaw W hHas) ?_
  rintro e W' ⟨v, H', hl', rfl, hok, rfl⟩
  exact ⟨_, rfl, true_post lay par (by kernel_rfl) Tryd.underlying4 rfl rfl hW' (by simpa [feet] using hok)⟩
noncomputable def laidWorld (os : Os) : World :=
  { World.holding Tryd.prog os ⟨#[], #[], []⟩ with heap := (World.holding Tryd.prog os ⟨#[], #[], []⟩).heap.modify 0 fun
      | .cells _ t frozen => .cells (bruijn.map fun (k : Nat) => Value.int .u8 (k : Int)).toArray t frozen
      | o => o }
def wargs : Array Value := #[.agg #[.slice none 0 0, .slice none 0 0, .slice none 0 0]]
theorem laid_met (os : Os) : laidMet Tryd.prog Rows.determinizeToNTAUptoRow.laid ((laidWorld os).forCall (fun _ _ => 0) ⟨#[], wargs, []⟩).memory :=
  laidMet_of_run' 8 (by kernel_rfl) (by kernel_rfl)
theorem reads (os : Os) {H : Type} (enc : TypeId × Value → H) : ∃ places, DataW.whole enc Tryd.prog ((laidWorld os).forCall (fun _ _ => 0) ⟨#[], wargs, []⟩).memory Tryd.f5.params.toList Rows.determinizeToNTASpec.vars false wargs.toList 8 = some ([.agg [.nil, .nil, .nil]], [], places) :=
  ⟨[], by kernel_rfl⟩
set_option maxRecDepth 100000 in
theorem liftedUpto (os : Os) (started : os.Started) (H : Type) (enc : TypeId × Value → H) (F : Stop.Interp) :
    ReturnsInHanded {} Tryd.checked os 5 .any ((Rows.OpenSpec.upto Rows.determinizeToNTASpec).preRow enc Tryd.prog Tryd.f5 Rows.determinizeToNTAUptoRow.domain false Rows.determinizeToNTAUptoRow.laid) (((Rows.OpenSpec.upto Rows.determinizeToNTASpec).at F).post enc Tryd.prog Tryd.f5 false true false false) := by
  obtain ⟨places, hx⟩ := reads os enc
  refine returnsInHanded_of_row (C := Tryd.checked) (s := Rows.OpenSpec.upto Rows.determinizeToNTASpec) own started (by kernel_rfl) Tryd.func5
    (witness_row_at (enc := enc) (C := Tryd.checked) false (laidWorld os) wargs rfl (by kernel_rfl) (by kernel_rfl) (by kernel_rfl)
      (OpenSpec.preRow_of_cond 8 hx (by kernel_rfl) (fun k hk => by cases hk; kernel_rfl) (by kernel_rfl) (laid_met os))) ?_
  intro W base args ds gs before hval hW _ hcond _ hL _ _
  exact contract H enc W base args ds gs before hval hW hL (of_decide_eq_true (hcond _ rfl))
theorem saidUpto : Rows.DeterminizeToNTAUptoSaid :=
  OpenClaim.holds_of_cond 5 Tryd.f5 rfl rfl rfl rfl rfl rfl rfl ⟨rfl, rfl, rfl, rfl, rfl⟩ rfl rfl rfl rfl rfl (by kernel_rfl) Tryd.func5 (by kernel_rfl)
    (of_decide_eq_true (by kernel_rfl)) (by unfold Func.isWrapper; first | (rw [if_pos (by decide +kernel)]; kernel_rfl) | (rw [if_neg (by decide +kernel)]; exact ⟨rfl, rfl⟩))
    (fun os started H enc _ F => by rw [OpenClaim.pre_eq_preRow]; exact liftedUpto os started H enc F)
set_option maxRecDepth 100000 in
theorem plain (f : FuncId) (fn : Func) (hf : Tryd.pinned.checked.prog.funcNamed "palmette/palmettelaw34.DeterminizeToNTA" = some f) (hfn : Tryd.pinned.checked.prog.funcs[f]? = some fn) :
    false = Tryd.pinned.checked.prog.looks [] ∧ ∀ (j : Nat) t, fn.params[j]? = some t → Tryd.pinned.checked.prog.wantsStandIn t = false := by
  obtain rfl : f = 5 := Option.some.inj ((show Tryd.prog.funcNamed "palmette/palmettelaw34.DeterminizeToNTA" = some 5 by kernel_rfl).symm.trans hf) |>.symm
  obtain rfl : fn = Tryd.f5 := (Option.some.inj (Tryd.func5.symm.trans hfn)).symm
  refine ⟨by kernel_rfl, fun j t ht => ?_⟩
  rw [Tryd.params5] at ht
  have hm := Array.mem_of_getElem? ht
  have r63 : Tryd.prog.wantsStandIn 63 = false := by kernel_rfl
  simp at hm
  subst hm
  exact r63
theorem cardUpto : Rows.DeterminizeToNTAUptoCardSaid :=
  Claim7.holds_tied_plain_at .later [] _ _ _ _ saidUpto (fun _ h => by cases h) (by kernel_rfl) (fun _ h => by cases h) determinizeToNTAUpto_row_tie rfl ⟨rfl, rfl⟩ (by kernel_rfl) rfl plain (by kernel_rfl)
end Go.Proofs.YtbelekbnjiajaaaDoor.determinizeToNTA
