/-
  NARROWER THAN 'FOR EVERY INPUT', by the rows' own cells (each row's printed sentence says how): NTAReachableStates: loops · NTARuns: loops · NTAImages: loops · NTATrim: loops · NTALanguages: loops.
  DERIVED. THE GIVEN ROWS OF THIS SEAT. 9 by the template 'for every input the law returns true; each argument reads behind the call as it read before'; 0 by the template 'total and deterministic' (their statements: YtdclodapkhgabaaGreatTotals.lean).
  GIVEN WITH THE SEED: the statements are not yours to turn. If you find one false, say at which input.
  Laid BY PROGRAM, IN A SANDBOX (cutbox-rows.mjs): the forced cells as the released guide's own fill.sh prints them over the translation cffbfb04138b719d… (all of the seat's roots in one cut). By AI agents, Wed Nov 11 2026. No macro, syntax, notation, axiom, sorry.
-/
import Derived.Test.YtdclodapkhgabaaGreatChecked
import GoSem.Claim
import GoSem.ClaimJoined
import GoSem.ClaimMapViews
import Derived.JoinedTies
import Derived.KernelRfl
namespace Go.Proofs.YtdclodapkhgabaaGreat
/- THE CELL 'sum', in the pinned program and in every row, IS THE sha256 OF THE DUMP (.gsa) THAT YtdclodapkhgabaaGreatProg.lean LOADS. Nothing in Lean hashes anything: it is a label: what it is worth is what the hold of that sum in a sandbox is worth. -/
noncomputable def Tryz.pinned : Pinned := { name := "ytdclodapkhgabaagreat", sum := "cffbfb04138b719d60b91f55c365461b3c04ca91864b76831b6e4e0aca93ed64", checked := Tryz.checked }
namespace Rows
def none {H : Type} : Left H := { results := [], args := [] }

/-- 'palmettelaw32.NTAReachableStates': WHATEVER THE INPUT: true; the input reads as it did. -/
def nTAReachableStatesSpec : ChangeSpec := { name := "nTAReachableStates", fn := fun _ => fun
  | [d1, d2] => { results := [.lit (.bool true)], args := [d1, d2] }
  | _ => none }
def nTAReachableStatesRow : OpenClaim := { program := "ytdclodapkhgabaagreat", sum := "cffbfb04138b719d60b91f55c365461b3c04ca91864b76831b6e4e0aca93ed64", func := "palmette/palmettelaw32.NTAReachableStates", spec := "nTAReachableStates", unfollowed := true, recurses := true, loops := true, apart := false }
def NTAReachableStatesSaid : Prop := nTAReachableStatesRow.holds Tryz.pinned (OpenSpec.ofChange nTAReachableStatesSpec)

/-- ITS FALSE NEIGHBOUR: 'it returns false'. Refute it at one input. -/
def nTAReachableStatesWrong : ChangeSpec := { name := "nTAReachableStates", fn := fun _ => fun
  | [d1, d2] => { results := [.lit (.bool false)], args := [d1, d2] }
  | _ => none }
def NTAReachableStatesWrongFalsely : Prop := nTAReachableStatesRow.holds Tryz.pinned (OpenSpec.ofChange nTAReachableStatesWrong)

/-- 'palmettelaw32.NTARuns': WHATEVER THE INPUT: true; the input reads as it did. -/
def nTARunsSpec : ChangeSpec := { name := "nTARuns", fn := fun _ => fun
  | [d1, d2] => { results := [.lit (.bool true)], args := [d1, d2] }
  | _ => none }
def nTARunsRow : OpenClaim := { program := "ytdclodapkhgabaagreat", sum := "cffbfb04138b719d60b91f55c365461b3c04ca91864b76831b6e4e0aca93ed64", func := "palmette/palmettelaw32.NTARuns", spec := "nTARuns", unfollowed := true, recurses := true, loops := true, apart := false }
def NTARunsSaid : Prop := nTARunsRow.holds Tryz.pinned (OpenSpec.ofChange nTARunsSpec)

/-- ITS FALSE NEIGHBOUR: 'it returns false'. Refute it at one input. -/
def nTARunsWrong : ChangeSpec := { name := "nTARuns", fn := fun _ => fun
  | [d1, d2] => { results := [.lit (.bool false)], args := [d1, d2] }
  | _ => none }
def NTARunsWrongFalsely : Prop := nTARunsRow.holds Tryz.pinned (OpenSpec.ofChange nTARunsWrong)

/-- 'palmettelaw32.NTAValidity': WHATEVER THE INPUT: true; the input reads as it did. -/
def nTAValiditySpec : ChangeSpec := { name := "nTAValidity", fn := fun _ => fun
  | [d] => { results := [.lit (.bool true)], args := [d] }
  | _ => none }
def nTAValidityRow : OpenClaim := { program := "ytdclodapkhgabaagreat", sum := "cffbfb04138b719d60b91f55c365461b3c04ca91864b76831b6e4e0aca93ed64", func := "palmette/palmettelaw32.NTAValidity", spec := "nTAValidity", unfollowed := true, recurses := true, apart := false }
def NTAValiditySaid : Prop := nTAValidityRow.holds Tryz.pinned (OpenSpec.ofChange nTAValiditySpec)

/-- ITS FALSE NEIGHBOUR: 'it returns false'. Refute it at one input. -/
def nTAValidityWrong : ChangeSpec := { name := "nTAValidity", fn := fun _ => fun
  | [d] => { results := [.lit (.bool false)], args := [d] }
  | _ => none }
def NTAValidityWrongFalsely : Prop := nTAValidityRow.holds Tryz.pinned (OpenSpec.ofChange nTAValidityWrong)

/-- 'palmettelaw32.NTARelabel': WHATEVER THE INPUT: true; the input reads as it did. -/
def nTARelabelSpec : ChangeSpec := { name := "nTARelabel", fn := fun _ => fun
  | [d1, d2, d3] => { results := [.lit (.bool true)], args := [d1, d2, d3] }
  | _ => none }
def nTARelabelRow : OpenClaim := { program := "ytdclodapkhgabaagreat", sum := "cffbfb04138b719d60b91f55c365461b3c04ca91864b76831b6e4e0aca93ed64", func := "palmette/palmettelaw32.NTARelabel", spec := "nTARelabel", unfollowed := true, recurses := true, apart := false }
def NTARelabelSaid : Prop := nTARelabelRow.holds Tryz.pinned (OpenSpec.ofChange nTARelabelSpec)

/-- ITS FALSE NEIGHBOUR: 'it returns false'. Refute it at one input. -/
def nTARelabelWrong : ChangeSpec := { name := "nTARelabel", fn := fun _ => fun
  | [d1, d2, d3] => { results := [.lit (.bool false)], args := [d1, d2, d3] }
  | _ => none }
def NTARelabelWrongFalsely : Prop := nTARelabelRow.holds Tryz.pinned (OpenSpec.ofChange nTARelabelWrong)

/-- 'palmettelaw32.NTAImages': WHATEVER THE INPUT: true; the input reads as it did. -/
def nTAImagesSpec : ChangeSpec := { name := "nTAImages", fn := fun _ => fun
  | [d1, d2, d3] => { results := [.lit (.bool true)], args := [d1, d2, d3] }
  | _ => none }
def nTAImagesRow : OpenClaim := { program := "ytdclodapkhgabaagreat", sum := "cffbfb04138b719d60b91f55c365461b3c04ca91864b76831b6e4e0aca93ed64", func := "palmette/palmettelaw32.NTAImages", spec := "nTAImages", unfollowed := true, recurses := true, loops := true, apart := false }
def NTAImagesSaid : Prop := nTAImagesRow.holds Tryz.pinned (OpenSpec.ofChange nTAImagesSpec)

/-- ITS FALSE NEIGHBOUR: 'it returns false'. Refute it at one input. -/
def nTAImagesWrong : ChangeSpec := { name := "nTAImages", fn := fun _ => fun
  | [d1, d2, d3] => { results := [.lit (.bool false)], args := [d1, d2, d3] }
  | _ => none }
def NTAImagesWrongFalsely : Prop := nTAImagesRow.holds Tryz.pinned (OpenSpec.ofChange nTAImagesWrong)

/-- 'palmettelaw32.NTATrim': WHATEVER THE INPUT: true; the input reads as it did. -/
def nTATrimSpec : ChangeSpec := { name := "nTATrim", fn := fun _ => fun
  | [d1, d2] => { results := [.lit (.bool true)], args := [d1, d2] }
  | _ => none }
def nTATrimRow : OpenClaim := { program := "ytdclodapkhgabaagreat", sum := "cffbfb04138b719d60b91f55c365461b3c04ca91864b76831b6e4e0aca93ed64", func := "palmette/palmettelaw32.NTATrim", spec := "nTATrim", unfollowed := true, recurses := true, loops := true, apart := false }
def NTATrimSaid : Prop := nTATrimRow.holds Tryz.pinned (OpenSpec.ofChange nTATrimSpec)

/-- ITS FALSE NEIGHBOUR: 'it returns false'. Refute it at one input. -/
def nTATrimWrong : ChangeSpec := { name := "nTATrim", fn := fun _ => fun
  | [d1, d2] => { results := [.lit (.bool false)], args := [d1, d2] }
  | _ => none }
def NTATrimWrongFalsely : Prop := nTATrimRow.holds Tryz.pinned (OpenSpec.ofChange nTATrimWrong)

/-- 'palmettelaw32.NTAProducts': WHATEVER THE INPUT: true; the input reads as it did. -/
def nTAProductsSpec : ChangeSpec := { name := "nTAProducts", fn := fun _ => fun
  | [d1, d2] => { results := [.lit (.bool true)], args := [d1, d2] }
  | _ => none }
def nTAProductsRow : OpenClaim := { program := "ytdclodapkhgabaagreat", sum := "cffbfb04138b719d60b91f55c365461b3c04ca91864b76831b6e4e0aca93ed64", func := "palmette/palmettelaw32.NTAProducts", spec := "nTAProducts", unfollowed := true, recurses := true, apart := false }
def NTAProductsSaid : Prop := nTAProductsRow.holds Tryz.pinned (OpenSpec.ofChange nTAProductsSpec)

/-- ITS FALSE NEIGHBOUR: 'it returns false'. Refute it at one input. -/
def nTAProductsWrong : ChangeSpec := { name := "nTAProducts", fn := fun _ => fun
  | [d1, d2] => { results := [.lit (.bool false)], args := [d1, d2] }
  | _ => none }
def NTAProductsWrongFalsely : Prop := nTAProductsRow.holds Tryz.pinned (OpenSpec.ofChange nTAProductsWrong)

/-- 'palmettelaw32.NTALanguages': WHATEVER THE INPUT: true; the input reads as it did. -/
def nTALanguagesSpec : ChangeSpec := { name := "nTALanguages", fn := fun _ => fun
  | [d1, d2, d3] => { results := [.lit (.bool true)], args := [d1, d2, d3] }
  | _ => none }
def nTALanguagesRow : OpenClaim := { program := "ytdclodapkhgabaagreat", sum := "cffbfb04138b719d60b91f55c365461b3c04ca91864b76831b6e4e0aca93ed64", func := "palmette/palmettelaw32.NTALanguages", spec := "nTALanguages", unfollowed := true, recurses := true, loops := true, apart := false }
def NTALanguagesSaid : Prop := nTALanguagesRow.holds Tryz.pinned (OpenSpec.ofChange nTALanguagesSpec)

/-- ITS FALSE NEIGHBOUR: 'it returns false'. Refute it at one input. -/
def nTALanguagesWrong : ChangeSpec := { name := "nTALanguages", fn := fun _ => fun
  | [d1, d2, d3] => { results := [.lit (.bool false)], args := [d1, d2, d3] }
  | _ => none }
def NTALanguagesWrongFalsely : Prop := nTALanguagesRow.holds Tryz.pinned (OpenSpec.ofChange nTALanguagesWrong)

/-- 'palmettelaw32.NTAEqual': WHATEVER THE INPUT: true; the input reads as it did. -/
def nTAEqualSpec : ChangeSpec := { name := "nTAEqual", fn := fun _ => fun
  | [d1, d2, d3] => { results := [.lit (.bool true)], args := [d1, d2, d3] }
  | _ => none }
def nTAEqualRow : OpenClaim := { program := "ytdclodapkhgabaagreat", sum := "cffbfb04138b719d60b91f55c365461b3c04ca91864b76831b6e4e0aca93ed64", func := "palmette/palmettelaw32.NTAEqual", spec := "nTAEqual", unfollowed := true, recurses := true, apart := false }
def NTAEqualSaid : Prop := nTAEqualRow.holds Tryz.pinned (OpenSpec.ofChange nTAEqualSpec)

/-- ITS FALSE NEIGHBOUR: 'it returns false'. Refute it at one input. -/
def nTAEqualWrong : ChangeSpec := { name := "nTAEqual", fn := fun _ => fun
  | [d1, d2, d3] => { results := [.lit (.bool false)], args := [d1, d2, d3] }
  | _ => none }
def NTAEqualWrongFalsely : Prop := nTAEqualRow.holds Tryz.pinned (OpenSpec.ofChange nTAEqualWrong)

/- THE SECOND FORM. 'bulk': how many values and letters a reading holds, each counted each time it is reached (what is shared counts as often as it is met; a slice's spare places count too). A statement '..UptoSaid' is the law's where the arguments, and the package variables that the reading takes, are together of bulk at most 1048576: NARROWER than '..Said'. Prove '..Said' where nothing that the law and all that it calls make is longer than what came in: it says more and counts as full. Else prove '..UptoSaid'. A law counts once. -/
mutual
def uptoBulk {H : Type} : DataW H → Nat
  | .lit (.string bytes) => bytes.length + 1
  | .lit _ => 1
  | .nil => 1
  | .ptr d => uptoBulk d + 1
  | .slice elems spare => uptoBulkAll elems + uptoBulkAll spare + 1
  | .agg parts => uptoBulkAll parts + 1
  | .iface _ d => uptoBulk d + 1
  | .map entries => uptoBulkEntries entries + 1
  | .held _ => 1
def uptoBulkAll {H : Type} : List (DataW H) → Nat
  | [] => 0
  | d :: r => uptoBulk d + uptoBulkAll r
def uptoBulkEntries {H : Type} : List (Lit × DataW H) → Nat
  | [] => 0
  | x :: r => uptoBulkEntry x + uptoBulkEntries r
def uptoBulkEntry {H : Type} : Lit × DataW H → Nat
  | (.string bytes, d) => bytes.length + uptoBulk d + 1
  | (_, d) => uptoBulk d + 1
 end
def uptoSmall : (H : Type) → List (DataW H) → Bool := fun _ ds => decide (uptoBulkAll ds ≤ 1048576)
def OpenSpec.upto (s : _root_.Go.ChangeSpec) : _root_.Go.OpenSpec := { _root_.Go.OpenSpec.ofChange s with cond := some uptoSmall }

/-- 'palmettelaw32.NTAReachableStates', WHERE WHAT IT READS IS OF BULK AT MOST 1048576: true; the input reads as it did. -/
def nTAReachableStatesUptoRow : OpenClaim := { program := "ytdclodapkhgabaagreat", sum := "cffbfb04138b719d60b91f55c365461b3c04ca91864b76831b6e4e0aca93ed64", func := "palmette/palmettelaw32.NTAReachableStates", spec := "nTAReachableStates", unfollowed := true, recurses := true, loops := true, apart := false, narrowed := true }
def NTAReachableStatesUptoSaid : Prop := nTAReachableStatesUptoRow.holds Tryz.pinned (OpenSpec.upto nTAReachableStatesSpec)

/-- 'palmettelaw32.NTARuns', WHERE WHAT IT READS IS OF BULK AT MOST 1048576: true; the input reads as it did. -/
def nTARunsUptoRow : OpenClaim := { program := "ytdclodapkhgabaagreat", sum := "cffbfb04138b719d60b91f55c365461b3c04ca91864b76831b6e4e0aca93ed64", func := "palmette/palmettelaw32.NTARuns", spec := "nTARuns", unfollowed := true, recurses := true, loops := true, apart := false, narrowed := true }
def NTARunsUptoSaid : Prop := nTARunsUptoRow.holds Tryz.pinned (OpenSpec.upto nTARunsSpec)

/-- 'palmettelaw32.NTAValidity', WHERE WHAT IT READS IS OF BULK AT MOST 1048576: true; the input reads as it did. -/
def nTAValidityUptoRow : OpenClaim := { program := "ytdclodapkhgabaagreat", sum := "cffbfb04138b719d60b91f55c365461b3c04ca91864b76831b6e4e0aca93ed64", func := "palmette/palmettelaw32.NTAValidity", spec := "nTAValidity", unfollowed := true, recurses := true, apart := false, narrowed := true }
def NTAValidityUptoSaid : Prop := nTAValidityUptoRow.holds Tryz.pinned (OpenSpec.upto nTAValiditySpec)

/-- 'palmettelaw32.NTARelabel', WHERE WHAT IT READS IS OF BULK AT MOST 1048576: true; the input reads as it did. -/
def nTARelabelUptoRow : OpenClaim := { program := "ytdclodapkhgabaagreat", sum := "cffbfb04138b719d60b91f55c365461b3c04ca91864b76831b6e4e0aca93ed64", func := "palmette/palmettelaw32.NTARelabel", spec := "nTARelabel", unfollowed := true, recurses := true, apart := false, narrowed := true }
def NTARelabelUptoSaid : Prop := nTARelabelUptoRow.holds Tryz.pinned (OpenSpec.upto nTARelabelSpec)

/-- 'palmettelaw32.NTAImages', WHERE WHAT IT READS IS OF BULK AT MOST 1048576: true; the input reads as it did. -/
def nTAImagesUptoRow : OpenClaim := { program := "ytdclodapkhgabaagreat", sum := "cffbfb04138b719d60b91f55c365461b3c04ca91864b76831b6e4e0aca93ed64", func := "palmette/palmettelaw32.NTAImages", spec := "nTAImages", unfollowed := true, recurses := true, loops := true, apart := false, narrowed := true }
def NTAImagesUptoSaid : Prop := nTAImagesUptoRow.holds Tryz.pinned (OpenSpec.upto nTAImagesSpec)

/-- 'palmettelaw32.NTATrim', WHERE WHAT IT READS IS OF BULK AT MOST 1048576: true; the input reads as it did. -/
def nTATrimUptoRow : OpenClaim := { program := "ytdclodapkhgabaagreat", sum := "cffbfb04138b719d60b91f55c365461b3c04ca91864b76831b6e4e0aca93ed64", func := "palmette/palmettelaw32.NTATrim", spec := "nTATrim", unfollowed := true, recurses := true, loops := true, apart := false, narrowed := true }
def NTATrimUptoSaid : Prop := nTATrimUptoRow.holds Tryz.pinned (OpenSpec.upto nTATrimSpec)

/-- 'palmettelaw32.NTAProducts', WHERE WHAT IT READS IS OF BULK AT MOST 1048576: true; the input reads as it did. -/
def nTAProductsUptoRow : OpenClaim := { program := "ytdclodapkhgabaagreat", sum := "cffbfb04138b719d60b91f55c365461b3c04ca91864b76831b6e4e0aca93ed64", func := "palmette/palmettelaw32.NTAProducts", spec := "nTAProducts", unfollowed := true, recurses := true, apart := false, narrowed := true }
def NTAProductsUptoSaid : Prop := nTAProductsUptoRow.holds Tryz.pinned (OpenSpec.upto nTAProductsSpec)

/-- 'palmettelaw32.NTALanguages', WHERE WHAT IT READS IS OF BULK AT MOST 1048576: true; the input reads as it did. -/
def nTALanguagesUptoRow : OpenClaim := { program := "ytdclodapkhgabaagreat", sum := "cffbfb04138b719d60b91f55c365461b3c04ca91864b76831b6e4e0aca93ed64", func := "palmette/palmettelaw32.NTALanguages", spec := "nTALanguages", unfollowed := true, recurses := true, loops := true, apart := false, narrowed := true }
def NTALanguagesUptoSaid : Prop := nTALanguagesUptoRow.holds Tryz.pinned (OpenSpec.upto nTALanguagesSpec)

/-- 'palmettelaw32.NTAEqual', WHERE WHAT IT READS IS OF BULK AT MOST 1048576: true; the input reads as it did. -/
def nTAEqualUptoRow : OpenClaim := { program := "ytdclodapkhgabaagreat", sum := "cffbfb04138b719d60b91f55c365461b3c04ca91864b76831b6e4e0aca93ed64", func := "palmette/palmettelaw32.NTAEqual", spec := "nTAEqual", unfollowed := true, recurses := true, apart := false, narrowed := true }
def NTAEqualUptoSaid : Prop := nTAEqualUptoRow.holds Tryz.pinned (OpenSpec.upto nTAEqualSpec)

end Rows
end Go.Proofs.YtdclodapkhgabaaGreat
