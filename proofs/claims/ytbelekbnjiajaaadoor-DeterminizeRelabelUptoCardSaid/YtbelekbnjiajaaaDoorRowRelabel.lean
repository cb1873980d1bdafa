/-
  Proved: the statement DeterminizeRelabelUptoCardSaid: for any tree and any slice of ints, the law palmettelaw34.DeterminizeRelabel returns true and leaves its arguments as they were.
  Conditions: those of the given row alone: arguments of at most 1048576 values in all, and the table of math/bits as the program lays it (the card ties it to the text).
-/
import Derived.Test.YtbelekbnjiajaaaDoorPalYK
import Derived.Test.YtbelekbnjiajaaaDoorPalP
import Derived.Test.YtbelekbnjiajaaaDoorCards
import Derived.Test.YtbelekbnjiajaaaDoorTie
import Derived.WalkKit
import Derived.ProofKit
import Derived.OpenShut
import Derived.Deep.DeepHandedRow
import Derived.Lib.LaidTab
namespace Go.Proofs.YtbelekbnjiajaaaDoor.relabel
open Go Go.ChangeShapes Go.WideShapes Go.ChangeAt Go.RowKit Pal Go.Proofs

theorem own : ownKnob Tryd.prog.godebug = none := by kernel_rfl
theorem gTab : Tryd.prog.globalNamed "math/bits.deBruijn64tab" = some 0 := by kernel_rfl
theorem gTabType : (Tryd.prog.globals[0]?).map (·.type) = some 155 := by kernel_rfl
theorem cells155 : Tryd.prog.cellsOf 155 = 64 := by kernel_rfl
theorem cells5 : Tryd.prog.cellsOf 5 = 1 := by kernel_rfl
theorem lay : laidOutB Tryd.prog = true := by kernel_rfl
theorem tree24 : TreeT Tryd.prog 24 22 3 := ⟨⟨_, _, Tryd.underlying24, ⟨rfl, rfl⟩, ⟨rfl, rfl⟩⟩, by kernel_rfl, by kernel_rfl, by kernel_rfl, by kernel_rfl, by kernel_rfl⟩
theorem bulk (H : Type) : Bulk (H := H) Rows.uptoBulk Rows.uptoBulkAll := ⟨fun _ => rfl, fun _ _ => rfl, rfl, fun _ _ => rfl⟩
theorem table {W : World} (h : laidMetH Tryd.prog Rows.determinizeRelabelUptoRow.laid W) : Tab (heapOf W) :=
  tab_of (Lib.tabIs_of_head (rest := []) gTab gTabType Tryd.underlying155 Tryd.underlying5 cells5 cells155 h) gTab
theorem par : ∀ t ∈ Tryd.f3.params.toList, Tryd.prog.readableRec t = true ∧ t < Tryd.prog.types.size := by
  intro t ht
  rw [Tryd.params3] at ht
  have h24 : Tryd.prog.readableRec 24 = true := by kernel_rfl
  have h25 : Tryd.prog.readableRec 25 = true := by kernel_rfl
  have hs : ∀ k, Nat.ble (k + 1) Tryd.prog.types.size = true → k < Tryd.prog.types.size := fun k h => Nat.le_of_ble_eq_true h
  simp at ht
  rcases ht with rfl | rfl
  · exact ⟨h24, hs 24 (by kernel_rfl)⟩
  · exact ⟨h25, hs 25 (by kernel_rfl)⟩
theorem okw_agg {P : Program} {W : World} {base : Nat} {t e : TypeId} {c2 : Array Value} (ht : P.underlying t = some (.slice e)) (h : Value.okWide P W .any base t (.agg c2)) : False := by
  unfold Value.okWide at h
  rw [ht] at h
  unfold Cell.okWide at h
  rw [ht] at h
  dsimp only at h
  unfold Cell.ok at h
  rw [ht] at h
  exact h
theorem okw_cell {P : Program} {W : World} {base : Nat} {t e : TypeId} {v w : Value} (ht : P.underlying t = some (.slice e)) (h : Value.okWide P W .any base t v) (hc : v.cells.toList = [w]) : v = w := by
  cases v with
  | agg c2 => exact (okw_agg ht h).elim
  | _ => exact List.head_eq_of_cons_eq hc
set_option maxRecDepth 100000 in
theorem contract (H : Type) (enc : TypeId × Value → H) (W : World) (base : Nat) (args : Array Value) (ds gs : List (DataW H)) (before : List MemPlace)
    (hval : ∀ (j : Nat) t v, Tryd.f3.params[j]? = some t → args[j]? = some v → Value.okWide Tryd.prog W .any base t v)
    (hW : DataW.Whole enc Tryd.prog Tryd.f3.params.toList Rows.determinizeRelabelSpec.vars false W args.toList ds gs before) (hL : laidMetH Tryd.prog Rows.determinizeRelabelUptoRow.laid W) (hb : Rows.uptoBulkAll (ds ++ gs) ≤ 1048576) :
    Calls Tryd.prog 3 args W fun e W' => ∃ v, e = .returned v ∧ Rows.determinizeRelabelSpec.post enc Tryd.prog Tryd.f3 false true false false W args v W' := by
  have hW' := hW
  obtain ⟨p, q, hA0, hV, rfl, hfz, hnd⟩ := hW
  have hA : DataW.TrodAll enc Tryd.prog W 0 (fun _ => true) true Tryd.f3.params.toList args.toList ds p := hA0
  rw [Tryd.params3] at hA hval
  obtain ⟨v0, vs0, d0, ds0, p0, q0, hargs, rfl, rfl, ⟨fu0, h0⟩, r0⟩ := trodAll_cons hA
  obtain ⟨v1, vs1, d1, ds1, p1, q1, rfl, rfl, rfl, ⟨fu1, h1⟩, r1⟩ := trodAll_cons r0
  obtain ⟨rfl, rfl, rfl⟩ := trodAll_nil r1
  obtain rfl : args = #[v0, v1] := by cases args; simp_all
  have hgs : gs = [] := (trodVars_none hV).1
  rw [hgs, List.append_nil] at hb
  obtain ⟨u, hu, hus⟩ := read_tree tree24 (bulk H) _ _ _ h0
  obtain ⟨w1, xs, hw1, hxs, hxl⟩ := read_ints Tryd.underlying25 Tryd.underlying3 (by kernel_rfl) h1
  have e0 : ∃ cs : List Value, v0 = .agg cs.toArray ∧ RepT (heapOf W) u cs := by
    obtain ⟨x0, x1, x2, x3, hx⟩ := hu.shape
    cases v0 with
    | agg cs => exact ⟨cs.toList, rfl, hu⟩
    | _ => simp [Value.cells] at hx
  obtain ⟨cs, rfl, hu'⟩ := e0
  obtain ⟨wa, wc, rfl⟩ := hxs.shape
  have hok1 := hval 1 25 v1 (by simp) (by simp)
  have e1 : v1 = .slice wa xs.length wc := okw_cell Tryd.underlying25 hok1 hw1
  subst e1
  have hsz : u.size ≤ 1048576 := by
    dsimp only at hus
    simp only [Rows.uptoBulkAll] at hb
    omega
  have hxn : xs.length ≤ 1048576 := by
    rcases hxl with rfl | ⟨es, rs, h2, h3⟩
    · simp
    · have hge : ∀ es : List (DataW H), es.length ≤ Rows.uptoBulkAll es := by
        intro es
        induction es with
        | nil => simp [Rows.uptoBulkAll]
        | cons d r ih =>
          have : 1 ≤ Rows.uptoBulk d := by cases d <;> first | (rename_i l; cases l <;> simp [Rows.uptoBulk]) | simp [Rows.uptoBulk]
          simp only [Rows.uptoBulkAll, List.length_cons]; omega
      simp only at h2
      subst h2
      simp only [Rows.uptoBulkAll, Rows.uptoBulk] at hb
      have := hge es
      omega
  have hHas : Has W (heapOf W) [] := ⟨fun _ _ h => h, fun _ he => (by cases he), fun _ hb => (by simp [feet] at hb), by simp [feet]⟩
  have hlaw := X.relabel_law u xs _ (heapOf W) cs (table hL) hu' hxs (by omega) (by omega)
  refine Calls.mono (hlaw W hHas) ?_
  rintro e W' ⟨v, H', hl', rfl, hok, rfl⟩
  exact ⟨_, rfl, true_post lay par (by kernel_rfl) Tryd.underlying4 rfl rfl hW' (by simpa [feet] using hok)⟩
noncomputable def laidWorld (os : Os) : World :=
  { World.holding Tryd.prog os ⟨#[], #[], []⟩ with heap := (World.holding Tryd.prog os ⟨#[], #[], []⟩).heap.modify 0 fun
      | .cells _ t frozen => .cells (bruijn.map fun (k : Nat) => Value.int .u8 (k : Int)).toArray t frozen
      | o => o }
def wargs : Array Value := #[.agg #[.int .i64 0, .slice none 0 0], .slice none 0 0]
theorem laid_met (os : Os) : laidMet Tryd.prog Rows.determinizeRelabelUptoRow.laid ((laidWorld os).forCall (fun _ _ => 0) ⟨#[], wargs, []⟩).memory :=
  laidMet_of_run' 8 (by kernel_rfl) (by kernel_rfl)
theorem reads (os : Os) {H : Type} (enc : TypeId × Value → H) : ∃ places, DataW.whole enc Tryd.prog ((laidWorld os).forCall (fun _ _ => 0) ⟨#[], wargs, []⟩).memory Tryd.f3.params.toList Rows.determinizeRelabelSpec.vars false wargs.toList 8 = some ([.agg [.lit (.int .i64 0), .nil], .nil], [], places) :=
  ⟨[], by kernel_rfl⟩
set_option maxRecDepth 100000 in
theorem liftedUpto (os : Os) (started : os.Started) (H : Type) (enc : TypeId × Value → H) (F : Stop.Interp) :
    ReturnsInHanded {} Tryd.checked os 3 .any ((Rows.OpenSpec.upto Rows.determinizeRelabelSpec).preRow enc Tryd.prog Tryd.f3 Rows.determinizeRelabelUptoRow.domain false Rows.determinizeRelabelUptoRow.laid) (((Rows.OpenSpec.upto Rows.determinizeRelabelSpec).at F).post enc Tryd.prog Tryd.f3 false true false false) := by
  obtain ⟨places, hx⟩ := reads os enc
  refine returnsInHanded_of_row (C := Tryd.checked) (s := Rows.OpenSpec.upto Rows.determinizeRelabelSpec) own started (by kernel_rfl) Tryd.func3
    (witness_row_at (enc := enc) (C := Tryd.checked) false (laidWorld os) wargs rfl (by kernel_rfl) (by kernel_rfl) (by kernel_rfl)
      (OpenSpec.preRow_of_cond 8 hx (by kernel_rfl) (fun k hk => by cases hk; kernel_rfl) (by kernel_rfl) (laid_met os))) ?_
  intro W base args ds gs before hval hW _ hcond _ hL _ _
  exact contract H enc W base args ds gs before hval hW hL (of_decide_eq_true (hcond _ rfl))
theorem saidUpto : Rows.DeterminizeRelabelUptoSaid :=
  OpenClaim.holds_of_cond 3 Tryd.f3 rfl rfl rfl rfl rfl rfl rfl ⟨rfl, rfl, rfl, rfl, rfl⟩ rfl rfl rfl rfl rfl (by kernel_rfl) Tryd.func3 (by kernel_rfl)
    (of_decide_eq_true (by kernel_rfl)) (by unfold Func.isWrapper; first | (rw [if_pos (by decide +kernel)]; kernel_rfl) | (rw [if_neg (by decide +kernel)]; exact ⟨rfl, rfl⟩))
    (fun os started H enc _ F => by rw [OpenClaim.pre_eq_preRow]; exact liftedUpto os started H enc F)
theorem plain (f : FuncId) (fn : Func) (hf : Tryd.pinned.checked.prog.funcNamed "palmette/palmettelaw34.DeterminizeRelabel" = some f) (hfn : Tryd.pinned.checked.prog.funcs[f]? = some fn) :
    false = Tryd.pinned.checked.prog.looks [] ∧ ∀ (j : Nat) t, fn.params[j]? = some t → Tryd.pinned.checked.prog.wantsStandIn t = false := by
  obtain rfl : f = 3 := Option.some.inj ((show Tryd.prog.funcNamed "palmette/palmettelaw34.DeterminizeRelabel" = some 3 by kernel_rfl).symm.trans hf) |>.symm
  obtain rfl : fn = Tryd.f3 := (Option.some.inj (Tryd.func3.symm.trans hfn)).symm
  refine ⟨by kernel_rfl, fun j t ht => ?_⟩
  rw [Tryd.params3] at ht
  have hm := Array.mem_of_getElem? ht
  have h24 : Tryd.prog.wantsStandIn 24 = false := by kernel_rfl
  have h25 : Tryd.prog.wantsStandIn 25 = false := by kernel_rfl
  simp at hm
  rcases hm with rfl | rfl
  · exact h24
  · exact h25
theorem cardUpto : Rows.DeterminizeRelabelUptoCardSaid :=
  Claim7.holds_tied_plain_at .later [] _ _ _ _ saidUpto (fun _ h => by cases h) (by kernel_rfl) (fun _ h => by cases h) determinizeRelabelUpto_row_tie rfl ⟨rfl, rfl⟩ (by kernel_rfl) rfl plain (by kernel_rfl)
end Go.Proofs.YtbelekbnjiajaaaDoor.relabel
