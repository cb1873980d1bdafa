/-
  Proved: the statement DeterminizeProjectIdentityUptoCardSaid: for any deterministic automaton, any two slices of ints and any tree, the law palmettelaw34.DeterminizeProjectIdentity returns true and leaves its arguments as they were.
  Conditions: those of the given row alone: arguments of at most 1048576 values in all, and the table of math/bits as the program lays it (the card ties it to the text).
-/
import Derived.Test.YtknnjemehafecaaGreatDoorPart5
import Derived.Test.YtknnjemehafecaaGreatDoorCards
import Derived.Test.YtknnjemehafecaaGreatDoorTie
import Derived.WalkKit
import Derived.ProofKit
import Derived.OpenShut
import Derived.Deep.DeepHandedRow
import Derived.Lib.LaidTab
namespace Go.Proofs.YtknnjemehafecaaGreatDoor.determinizeProjectIdentity
open Go Go.ChangeShapes Go.WideShapes Go.ChangeAt Go.RowKit Pal Go.Proofs

theorem own : ownKnob Tryz.prog.godebug = none := by kernel_rfl
theorem lay : laidOutB Tryz.prog = true := by kernel_rfl
theorem gTab : Tryz.prog.globalNamed "math/bits.deBruijn64tab" = some 2 := by kernel_rfl
theorem gTabType : (Tryz.prog.globals[2]?).map (·.type) = some 257 := by kernel_rfl
theorem cellsTb : Tryz.prog.cellsOf 257 = 64 := by kernel_rfl
theorem cellsU8 : Tryz.prog.cellsOf 5 = 1 := by kernel_rfl
theorem table {W : World} (h : laidMetH Tryz.prog Rows.determinizeProjectIdentityUptoRow.laid W) : X.Tab (heapOf W) :=
  tab_of (Lib.tabIs_of_head (rest := []) gTab gTabType Tryz.underlying257 Tryz.underlying5 cellsU8 cellsTb h) gTab
theorem bulk (H : Type) : Bulk (H := H) Rows.uptoBulk Rows.uptoBulkAll := ⟨fun _ => rfl, fun _ _ => rfl, rfl, fun _ _ => rfl⟩
theorem bulk1 (H : Type) : Bulk1 (H := H) Rows.uptoBulk Rows.uptoBulkAll := ⟨bulk H, fun d => by cases d <;> first | (rename_i l; cases l <;> simp [Rows.uptoBulk]) | simp [Rows.uptoBulk]⟩
theorem treeT : TreeT Tryz.prog 29 27 3 := ⟨⟨_, _, Tryz.underlying29, ⟨rfl, rfl⟩, ⟨rfl, rfl⟩⟩, by kernel_rfl, by kernel_rfl, by kernel_rfl, by kernel_rfl, by kernel_rfl⟩
theorem dtaT : DtaT Tryz.prog 26 22 23 24 3 4 := ⟨⟨_, _, _, Tryz.underlying26, ⟨rfl, rfl⟩, ⟨rfl, rfl⟩, ⟨rfl, rfl⟩⟩, by kernel_rfl, by kernel_rfl, by kernel_rfl, by kernel_rfl, by kernel_rfl, by kernel_rfl, by kernel_rfl, by kernel_rfl, by kernel_rfl, by kernel_rfl, by kernel_rfl⟩
set_option maxRecDepth 100000 in
theorem par : ∀ t ∈ Tryz.f3.params.toList, Tryz.prog.readableRec t = true ∧ t < Tryz.prog.types.size := by
  intro t ht
  rw [Tryz.params3] at ht
  have hs : ∀ k, Nat.ble (k + 1) Tryz.prog.types.size = true → k < Tryz.prog.types.size := fun k h => Nat.le_of_ble_eq_true h
  have r22 : Tryz.prog.readableRec 22 = true ∧ 22 < Tryz.prog.types.size := ⟨by kernel_rfl, hs 22 (by kernel_rfl)⟩
  have r26 : Tryz.prog.readableRec 26 = true ∧ 26 < Tryz.prog.types.size := ⟨by kernel_rfl, hs 26 (by kernel_rfl)⟩
  have r29 : Tryz.prog.readableRec 29 = true ∧ 29 < Tryz.prog.types.size := ⟨by kernel_rfl, hs 29 (by kernel_rfl)⟩
  simp at ht
  rcases ht with rfl | rfl | rfl
  all_goals first | exact r22 | exact r26 | exact r29
set_option maxRecDepth 100000 in
theorem contract (H : Type) (enc : TypeId × Value → H) (W : World) (base : Nat) (args : Array Value) (ds gs : List (DataW H)) (before : List MemPlace)
    (hval : ∀ (j : Nat) t v, Tryz.f3.params[j]? = some t → args[j]? = some v → Value.okWide Tryz.prog W .any base t v)
    (hW : DataW.Whole enc Tryz.prog Tryz.f3.params.toList Rows.determinizeProjectIdentitySpec.vars false W args.toList ds gs before) (hL : laidMetH Tryz.prog Rows.determinizeProjectIdentityUptoRow.laid W) (hb : Rows.uptoBulkAll (ds ++ gs) ≤ 1048576) :
    Calls Tryz.prog 3 args W fun e W' => ∃ v, e = .returned v ∧ Rows.determinizeProjectIdentitySpec.post enc Tryz.prog Tryz.f3 false true false false W args v W' := by
  have hW' := hW
  obtain ⟨p, q, hA0, hV, rfl, hfz, hnd⟩ := hW
  have hA : DataW.TrodAll enc Tryz.prog W 0 (fun _ => true) true Tryz.f3.params.toList args.toList ds p := hA0
  rw [Tryz.params3] at hA hval
  obtain ⟨v0, vs0, d0, ds0, p0, q0, hargs, rfl, rfl, ⟨fu0, h0⟩, r0⟩ := trodAll_cons hA
  obtain ⟨v1, vs1, d1, ds1, p1, q1, rfl, rfl, rfl, ⟨fu1, h1⟩, r1⟩ := trodAll_cons r0
  obtain ⟨v2, vs2, d2, ds2, p2, q2, rfl, rfl, rfl, ⟨fu2, h2⟩, r2⟩ := trodAll_cons r1
  obtain ⟨v3, vs3, d3, ds3, p3, q3, rfl, rfl, rfl, ⟨fu3, h3⟩, r3⟩ := trodAll_cons r2
  obtain ⟨rfl, rfl, rfl⟩ := trodAll_nil r3
  obtain rfl : args = #[v0, v1, v2, v3] := by cases args; simp_all
  have hgs : gs = [] := (trodVars_none hV).1
  rw [hgs, List.append_nil] at hb
  simp only [Rows.uptoBulkAll] at hb
  obtain ⟨a0, ⟨vr0, va0, vt0, hc0, hrep0⟩, b10, b20, b30, b40⟩ := rd_dta (bulk1 H) dtaT _ _ _ h0
  obtain rfl := agg_of hc0 (by simp)
  have hsm0 : a0.ranks.length ≤ 1048576 ∧ a0.acc.length ≤ 1048576 ∧ a0.to.length ≤ 1048576 ∧ ∀ x ∈ a0.to, x.length ≤ 1048576 := ⟨by dsimp only at b10; omega, by dsimp only at b20; omega, by dsimp only at b30; omega, fun r hr => by have := b40 r hr; dsimp only at this; omega⟩
  obtain ⟨xs1, hx1, hxb1, _⟩ := rd_slice (sz := 1) (bulk1 H) (fun _ _ _ _ _ => trivial) Tryz.underlying22 (by kernel_rfl) (by decide) (rd_int Tryz.underlying3) _ _ _ h1
  obtain ⟨w1, hw1, hxs1⟩ := hx1.si
  have e1 : v1 = w1 := okw_cell (.inl ⟨_, Tryz.underlying22⟩) (hval 1 22 v1 (by simp) (by simp)) hw1
  subst e1
  have hxn1 : xs1.length ≤ 1048576 := by dsimp only at hxb1; omega
  obtain ⟨xs2, hx2, hxb2, _⟩ := rd_slice (sz := 1) (bulk1 H) (fun _ _ _ _ _ => trivial) Tryz.underlying22 (by kernel_rfl) (by decide) (rd_int Tryz.underlying3) _ _ _ h2
  obtain ⟨w2, hw2, hxs2⟩ := hx2.si
  have e2 : v2 = w2 := okw_cell (.inl ⟨_, Tryz.underlying22⟩) (hval 2 22 v2 (by simp) (by simp)) hw2
  subst e2
  have hxn2 : xs2.length ≤ 1048576 := by dsimp only at hxb2; omega
  obtain ⟨u3, hu3, hus3⟩ := read_tree treeT (bulk H) _ _ _ h3
  obtain ⟨cs3, hcs3⟩ : ∃ cs, v3.cells.toList = cs := ⟨_, rfl⟩
  rw [hcs3] at hu3
  obtain rfl := agg_of hcs3 (by rw [hu3.two]; decide)
  have hsz3 : u3.size ≤ 1048576 := by dsimp only at hus3; omega
  have hHas : Has W (heapOf W) [] := ⟨fun _ _ h => h, fun _ he => (by cases he), fun _ hb => (by simp [feet] at hb), by simp [feet]⟩
  have hlaw := X.identity_law a0 xs1 xs2 u3 vr0 va0 vt0 _ _ (heapOf W) cs3 (table hL) hrep0 hsm0 hxs1 hxs2 (by omega) (by omega) hu3 (by omega)
  refine Calls.mono (hlaw W hHas) ?_
  rintro e W' ⟨v, H', hl', rfl, hok, rfl⟩
  exact ⟨_, rfl, true_post lay par (by kernel_rfl) Tryz.underlying4 rfl rfl hW' (by simpa [feet] using hok)⟩
noncomputable def laidWorld (os : Os) : World :=
  { World.holding Tryz.prog os ⟨#[], #[], []⟩ with heap := (World.holding Tryz.prog os ⟨#[], #[], []⟩).heap.modify 2 fun
      | .cells _ t frozen => .cells (bruijn.map fun (k : Nat) => Value.int .u8 (k : Int)).toArray t frozen
      | o => o }
def wargs : Array Value := #[.agg #[.slice none 0 0, .slice none 0 0, .slice none 0 0], .slice none 0 0, .slice none 0 0, .agg #[.int .i64 0, .slice none 0 0]]
theorem laid_met (os : Os) : laidMet Tryz.prog Rows.determinizeProjectIdentityUptoRow.laid ((laidWorld os).forCall (fun _ _ => 0) ⟨#[], wargs, []⟩).memory :=
  laidMet_of_run' 8 (by kernel_rfl) (by kernel_rfl)
theorem reads (os : Os) {H : Type} (enc : TypeId × Value → H) : ∃ places, DataW.whole enc Tryz.prog ((laidWorld os).forCall (fun _ _ => 0) ⟨#[], wargs, []⟩).memory Tryz.f3.params.toList Rows.determinizeProjectIdentitySpec.vars false wargs.toList 8 = some ([.agg [.nil, .nil, .nil], .nil, .nil, .agg [.lit (.int .i64 0), .nil]], [], places) :=
  ⟨[], by kernel_rfl⟩
set_option maxRecDepth 100000 in
theorem liftedUpto (os : Os) (started : os.Started) (H : Type) (enc : TypeId × Value → H) (F : Stop.Interp) :
    ReturnsInHanded {} Tryz.checked os 3 .any ((Rows.OpenSpec.upto Rows.determinizeProjectIdentitySpec).preRow enc Tryz.prog Tryz.f3 Rows.determinizeProjectIdentityUptoRow.domain false Rows.determinizeProjectIdentityUptoRow.laid) (((Rows.OpenSpec.upto Rows.determinizeProjectIdentitySpec).at F).post enc Tryz.prog Tryz.f3 false true false false) := by
  obtain ⟨places, hx⟩ := reads os enc
  refine returnsInHanded_of_row (C := Tryz.checked) (s := Rows.OpenSpec.upto Rows.determinizeProjectIdentitySpec) own started (by kernel_rfl) Tryz.func3
    (witness_row_at (enc := enc) (C := Tryz.checked) false (laidWorld os) wargs rfl (by kernel_rfl) (by kernel_rfl) (by kernel_rfl)
      (OpenSpec.preRow_of_cond 8 hx (by kernel_rfl) (fun k hk => by cases hk; kernel_rfl) (by kernel_rfl) (laid_met os))) ?_
  intro W base args ds gs before hval hW _ hcond _ hL _ _
  exact contract H enc W base args ds gs before hval hW hL (of_decide_eq_true (hcond _ rfl))
theorem saidUpto : Rows.DeterminizeProjectIdentityUptoSaid :=
  OpenClaim.holds_of_cond 3 Tryz.f3 rfl rfl rfl rfl rfl rfl rfl ⟨rfl, rfl, rfl, rfl, rfl⟩ rfl rfl rfl rfl rfl (by kernel_rfl) Tryz.func3 (by kernel_rfl)
    (of_decide_eq_true (by kernel_rfl)) (by unfold Func.isWrapper; first | (rw [if_pos (by decide +kernel)]; kernel_rfl) | (rw [if_neg (by decide +kernel)]; exact ⟨rfl, rfl⟩))
    (fun os started H enc _ F => by rw [OpenClaim.pre_eq_preRow]; exact liftedUpto os started H enc F)
set_option maxRecDepth 100000 in
theorem plain (f : FuncId) (fn : Func) (hf : Tryz.pinned.checked.prog.funcNamed "palmette/palmettelaw34.DeterminizeProjectIdentity" = some f) (hfn : Tryz.pinned.checked.prog.funcs[f]? = some fn) :
    false = Tryz.pinned.checked.prog.looks [] ∧ ∀ (j : Nat) t, fn.params[j]? = some t → Tryz.pinned.checked.prog.wantsStandIn t = false := by
  obtain rfl : f = 3 := Option.some.inj ((show Tryz.prog.funcNamed "palmette/palmettelaw34.DeterminizeProjectIdentity" = some 3 by kernel_rfl).symm.trans hf) |>.symm
  obtain rfl : fn = Tryz.f3 := (Option.some.inj (Tryz.func3.symm.trans hfn)).symm
  refine ⟨by kernel_rfl, fun j t ht => ?_⟩
  rw [Tryz.params3] at ht
  have hm := Array.mem_of_getElem? ht
  have r22 : Tryz.prog.wantsStandIn 22 = false := by kernel_rfl
  have r26 : Tryz.prog.wantsStandIn 26 = false := by kernel_rfl
  have r29 : Tryz.prog.wantsStandIn 29 = false := by kernel_rfl
  simp at hm
  rcases hm with rfl | rfl | rfl
  all_goals first | exact r22 | exact r26 | exact r29
theorem cardUpto : Rows.DeterminizeProjectIdentityUptoCardSaid :=
  Claim7.holds_tied_plain_at .later [] _ _ _ _ saidUpto (fun _ h => by cases h) (by kernel_rfl) (fun _ h => by cases h) determinizeProjectIdentityUpto_row_tie rfl ⟨rfl, rfl⟩ (by kernel_rfl) rfl plain (by kernel_rfl)
end Go.Proofs.YtknnjemehafecaaGreatDoor.determinizeProjectIdentity
