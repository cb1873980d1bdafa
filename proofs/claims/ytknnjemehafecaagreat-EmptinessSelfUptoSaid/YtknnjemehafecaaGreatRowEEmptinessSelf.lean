/-
  Proved: the statement EmptinessSelfUptoSaid: for any deterministic automaton, the law palmettelaw36.EmptinessSelf returns true and leaves its argument as it was.
  Conditions: those of the given row alone: arguments of at most 1048576 values in all.
-/
import Derived.Test.YtknnjemehafecaaGreatPart5
import Derived.Test.YtknnjemehafecaaGreatRows
import Derived.WalkKit
import Derived.ProofKit
import Derived.OpenShut
import Derived.Deep.DeepHandedRow
import Derived.Lib.LaidTab
namespace Go.Proofs.YtknnjemehafecaaGreat.emptinessSelf
open Go Go.ChangeShapes Go.WideShapes Go.ChangeAt Go.RowKit Pal Go.Proofs

theorem own : ownKnob Tryz.prog.godebug = none := by kernel_rfl
theorem lay : laidOutB Tryz.prog = true := by kernel_rfl
theorem bulk (H : Type) : Bulk (H := H) Rows.uptoBulk Rows.uptoBulkAll := ⟨fun _ => rfl, fun _ _ => rfl, rfl, fun _ _ => rfl⟩
theorem bulk1 (H : Type) : Bulk1 (H := H) Rows.uptoBulk Rows.uptoBulkAll := ⟨bulk H, fun d => by cases d <;> first | (rename_i l; cases l <;> simp [Rows.uptoBulk]) | simp [Rows.uptoBulk]⟩
theorem dtaT : DtaT Tryz.prog 54 22 29 52 3 4 := ⟨⟨_, _, _, Tryz.underlying54, ⟨rfl, rfl⟩, ⟨rfl, rfl⟩, ⟨rfl, rfl⟩⟩, by kernel_rfl, by kernel_rfl, by kernel_rfl, by kernel_rfl, by kernel_rfl, by kernel_rfl, by kernel_rfl, by kernel_rfl, by kernel_rfl, by kernel_rfl, by kernel_rfl⟩
set_option maxRecDepth 100000 in
theorem par : ∀ t ∈ Tryz.f8.params.toList, Tryz.prog.readableRec t = true ∧ t < Tryz.prog.types.size := by
  intro t ht
  rw [Tryz.params8] at ht
  have hs : ∀ k, Nat.ble (k + 1) Tryz.prog.types.size = true → k < Tryz.prog.types.size := fun k h => Nat.le_of_ble_eq_true h
  have r54 : Tryz.prog.readableRec 54 = true ∧ 54 < Tryz.prog.types.size := ⟨by kernel_rfl, hs 54 (by kernel_rfl)⟩
  simp at ht
  subst ht
  exact r54
set_option maxRecDepth 100000 in
theorem contract (H : Type) (enc : TypeId × Value → H) (W : World) (base : Nat) (args : Array Value) (ds gs : List (DataW H)) (before : List MemPlace)
    (hval : ∀ (j : Nat) t v, Tryz.f8.params[j]? = some t → args[j]? = some v → Value.okWide Tryz.prog W .any base t v)
    (hW : DataW.Whole enc Tryz.prog Tryz.f8.params.toList Rows.emptinessSelfSpec.vars false W args.toList ds gs before) (hb : Rows.uptoBulkAll (ds ++ gs) ≤ 1048576) :
    Calls Tryz.prog 8 args W fun e W' => ∃ v, e = .returned v ∧ Rows.emptinessSelfSpec.post enc Tryz.prog Tryz.f8 false true false false W args v W' := by
  have hW' := hW
  obtain ⟨p, q, hA0, hV, rfl, hfz, hnd⟩ := hW
  have hA : DataW.TrodAll enc Tryz.prog W 0 (fun _ => true) true Tryz.f8.params.toList args.toList ds p := hA0
  rw [Tryz.params8] at hA hval
  obtain ⟨v0, vs0, d0, ds0, p0, q0, hargs, rfl, rfl, ⟨fu0, h0⟩, r0⟩ := trodAll_cons hA
  obtain ⟨rfl, rfl, rfl⟩ := trodAll_nil r0
  obtain rfl : args = #[v0] := by cases args; simp_all
  have hgs : gs = [] := (trodVars_none hV).1
  rw [hgs, List.append_nil] at hb
  simp only [Rows.uptoBulkAll] at hb
  obtain ⟨a0, ⟨vr0, va0, vt0, hc0, hrep0⟩, b10, b20, b30, b40⟩ := rd_dta (bulk1 H) dtaT _ _ _ h0
  obtain rfl := agg_of hc0 (by simp)
  have hsm0 : a0.ranks.length ≤ 1048576 ∧ a0.acc.length ≤ 1048576 ∧ a0.to.length ≤ 1048576 ∧ ∀ x ∈ a0.to, x.length ≤ 1048576 := ⟨by dsimp only at b10; omega, by dsimp only at b20; omega, by dsimp only at b30; omega, fun r hr => by have := b40 r hr; dsimp only at this; omega⟩
  have hHas : Has W (heapOf W) [] := ⟨fun _ _ h => h, fun _ he => (by cases he), fun _ hb => (by simp [feet] at hb), by simp [feet]⟩
  have hlaw := X.self_law a0 hsm0 vr0 va0 vt0 (heapOf W) hrep0
  refine Calls.mono (hlaw W hHas) ?_
  rintro e W' ⟨v, H', hl', rfl, hok, rfl⟩
  exact ⟨_, rfl, true_post lay par (by kernel_rfl) Tryz.underlying4 rfl rfl hW' (by simpa [feet] using hok)⟩
noncomputable def laidWorld (os : Os) : World := World.holding Tryz.prog os ⟨#[], #[], []⟩
def wargs : Array Value := #[.agg #[.slice none 0 0, .slice none 0 0, .slice none 0 0]]
theorem reads (os : Os) {H : Type} (enc : TypeId × Value → H) : ∃ places, DataW.whole enc Tryz.prog ((laidWorld os).forCall (fun _ _ => 0) ⟨#[], wargs, []⟩).memory Tryz.f8.params.toList Rows.emptinessSelfSpec.vars false wargs.toList 8 = some ([.agg [.nil, .nil, .nil]], [], places) :=
  ⟨[], by kernel_rfl⟩
set_option maxRecDepth 100000 in
theorem liftedUpto (os : Os) (started : os.Started) (H : Type) (enc : TypeId × Value → H) (F : Stop.Interp) :
    ReturnsInHanded {} Tryz.checked os 8 .any ((Rows.OpenSpec.upto Rows.emptinessSelfSpec).preRow enc Tryz.prog Tryz.f8 Rows.emptinessSelfUptoRow.domain false Rows.emptinessSelfUptoRow.laid) (((Rows.OpenSpec.upto Rows.emptinessSelfSpec).at F).post enc Tryz.prog Tryz.f8 false true false false) := by
  obtain ⟨places, hx⟩ := reads os enc
  refine returnsInHanded_of_row (C := Tryz.checked) (s := Rows.OpenSpec.upto Rows.emptinessSelfSpec) own started (by kernel_rfl) Tryz.func8
    (witness_row_at (enc := enc) (C := Tryz.checked) false (laidWorld os) wargs rfl (by kernel_rfl) (by kernel_rfl) (by kernel_rfl)
      (OpenSpec.preRow_of_cond 8 hx (by kernel_rfl) (fun k hk => by cases hk; kernel_rfl) (by kernel_rfl) (laidMet_nil _ _))) ?_
  intro W base args ds gs before hval hW _ hcond _ _ _ _
  exact contract H enc W base args ds gs before hval hW (of_decide_eq_true (hcond _ rfl))
theorem saidUpto : Rows.EmptinessSelfUptoSaid :=
  OpenClaim.holds_of_cond 8 Tryz.f8 rfl rfl rfl rfl rfl rfl rfl ⟨rfl, rfl, rfl, rfl, rfl⟩ rfl rfl rfl rfl rfl (by kernel_rfl) Tryz.func8 (by kernel_rfl)
    (of_decide_eq_true (by kernel_rfl)) (by unfold Func.isWrapper; first | (rw [if_pos (by decide +kernel)]; kernel_rfl) | (rw [if_neg (by decide +kernel)]; exact ⟨rfl, rfl⟩))
    (fun os started H enc _ F => by rw [OpenClaim.pre_eq_preRow]; exact liftedUpto os started H enc F)
end Go.Proofs.YtknnjemehafecaaGreat.emptinessSelf
