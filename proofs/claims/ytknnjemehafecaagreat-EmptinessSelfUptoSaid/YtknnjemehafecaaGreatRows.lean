/-
  NARROWER THAN 'FOR EVERY INPUT', by the rows' own cells (each row's printed sentence says how): EmptinessFinite: loops.
  DERIVED. THE GIVEN ROWS OF THIS SEAT. 6 by the template 'for every input the law returns true; each argument reads behind the call as it read before'; 0 by the template 'total and deterministic' (their statements: YtknnjemehafecaaGreatTotals.lean).
  GIVEN WITH THE SEED: the statements are not yours to turn. If you find one false, say at which input.
  Laid BY PROGRAM, IN A SANDBOX (cutbox-rows.mjs): the forced cells as the released guide's own fill.sh prints them over the translation 957c686b32db7c17… (all of the seat's roots in one cut). By AI agents, Wed Nov 11 2026. No macro, syntax, notation, axiom, sorry.
-/
import Derived.Test.YtknnjemehafecaaGreatChecked
import GoSem.Claim
import GoSem.ClaimJoined
import GoSem.ClaimMapViews
import Derived.JoinedTies
import Derived.KernelRfl
namespace Go.Proofs.YtknnjemehafecaaGreat
/- THE CELL 'sum', in the pinned program and in every row, IS THE sha256 OF THE DUMP (.gsa) THAT YtknnjemehafecaaGreatProg.lean LOADS. Nothing in Lean hashes anything: it is a label: what it is worth is what the hold of that sum in a sandbox is worth. -/
noncomputable def Tryz.pinned : Pinned := { name := "ytknnjemehafecaagreat", sum := "957c686b32db7c1717d2cc0c5029305b0de31bd70baf966eb637f053d2480934", checked := Tryz.checked }
namespace Rows
def none {H : Type} : Left H := { results := [], args := [] }

/-- 'palmettelaw36.EmptinessLeastTrees': WHATEVER THE INPUT: true; the input reads as it did. -/
def emptinessLeastTreesSpec : ChangeSpec := { name := "emptinessLeastTrees", fn := fun _ => fun
  | [d] => { results := [.lit (.bool true)], args := [d] }
  | _ => none }
def emptinessLeastTreesRow : OpenClaim := { program := "ytknnjemehafecaagreat", sum := "957c686b32db7c1717d2cc0c5029305b0de31bd70baf966eb637f053d2480934", func := "palmette/palmettelaw36.EmptinessLeastTrees", spec := "emptinessLeastTrees", unfollowed := true, recurses := true, plainKeys := false, apart := false }
def EmptinessLeastTreesSaid : Prop := emptinessLeastTreesRow.holds Tryz.pinned (OpenSpec.ofChange emptinessLeastTreesSpec)

/-- ITS FALSE NEIGHBOUR: 'it returns false'. Refute it at one input. -/
def emptinessLeastTreesWrong : ChangeSpec := { name := "emptinessLeastTrees", fn := fun _ => fun
  | [d] => { results := [.lit (.bool false)], args := [d] }
  | _ => none }
def EmptinessLeastTreesWrongFalsely : Prop := emptinessLeastTreesRow.holds Tryz.pinned (OpenSpec.ofChange emptinessLeastTreesWrong)

/-- 'palmettelaw36.EmptinessComplement': WHATEVER THE INPUT: true; the input reads as it did. -/
def emptinessComplementSpec : ChangeSpec := { name := "emptinessComplement", fn := fun _ => fun
  | [d1, d2] => { results := [.lit (.bool true)], args := [d1, d2] }
  | _ => none }
def emptinessComplementRow : OpenClaim := { program := "ytknnjemehafecaagreat", sum := "957c686b32db7c1717d2cc0c5029305b0de31bd70baf966eb637f053d2480934", func := "palmette/palmettelaw36.EmptinessComplement", spec := "emptinessComplement", unfollowed := true, recurses := true, plainKeys := false, apart := false }
def EmptinessComplementSaid : Prop := emptinessComplementRow.holds Tryz.pinned (OpenSpec.ofChange emptinessComplementSpec)

/-- ITS FALSE NEIGHBOUR: 'it returns false'. Refute it at one input. -/
def emptinessComplementWrong : ChangeSpec := { name := "emptinessComplement", fn := fun _ => fun
  | [d1, d2] => { results := [.lit (.bool false)], args := [d1, d2] }
  | _ => none }
def EmptinessComplementWrongFalsely : Prop := emptinessComplementRow.holds Tryz.pinned (OpenSpec.ofChange emptinessComplementWrong)

/-- 'palmettelaw36.EmptinessMinimality': WHATEVER THE INPUT: true; the input reads as it did. -/
def emptinessMinimalitySpec : ChangeSpec := { name := "emptinessMinimality", fn := fun _ => fun
  | [d] => { results := [.lit (.bool true)], args := [d] }
  | _ => none }
def emptinessMinimalityRow : OpenClaim := { program := "ytknnjemehafecaagreat", sum := "957c686b32db7c1717d2cc0c5029305b0de31bd70baf966eb637f053d2480934", func := "palmette/palmettelaw36.EmptinessMinimality", spec := "emptinessMinimality", unfollowed := true, recurses := true, plainKeys := false, apart := false }
def EmptinessMinimalitySaid : Prop := emptinessMinimalityRow.holds Tryz.pinned (OpenSpec.ofChange emptinessMinimalitySpec)

/-- ITS FALSE NEIGHBOUR: 'it returns false'. Refute it at one input. -/
def emptinessMinimalityWrong : ChangeSpec := { name := "emptinessMinimality", fn := fun _ => fun
  | [d] => { results := [.lit (.bool false)], args := [d] }
  | _ => none }
def EmptinessMinimalityWrongFalsely : Prop := emptinessMinimalityRow.holds Tryz.pinned (OpenSpec.ofChange emptinessMinimalityWrong)

/-- 'palmettelaw36.EmptinessFinite': WHATEVER THE INPUT: true; the input reads as it did. -/
def emptinessFiniteSpec : ChangeSpec := { name := "emptinessFinite", fn := fun _ => fun
  | [d1, d2] => { results := [.lit (.bool true)], args := [d1, d2] }
  | _ => none }
def emptinessFiniteRow : OpenClaim := { program := "ytknnjemehafecaagreat", sum := "957c686b32db7c1717d2cc0c5029305b0de31bd70baf966eb637f053d2480934", func := "palmette/palmettelaw36.EmptinessFinite", spec := "emptinessFinite", unfollowed := true, recurses := true, loops := true, plainKeys := false, apart := false }
def EmptinessFiniteSaid : Prop := emptinessFiniteRow.holds Tryz.pinned (OpenSpec.ofChange emptinessFiniteSpec)

/-- ITS FALSE NEIGHBOUR: 'it returns false'. Refute it at one input. -/
def emptinessFiniteWrong : ChangeSpec := { name := "emptinessFinite", fn := fun _ => fun
  | [d1, d2] => { results := [.lit (.bool false)], args := [d1, d2] }
  | _ => none }
def EmptinessFiniteWrongFalsely : Prop := emptinessFiniteRow.holds Tryz.pinned (OpenSpec.ofChange emptinessFiniteWrong)

/-- 'palmettelaw36.EmptinessErrors': WHATEVER THE INPUT: true; the input reads as it did. -/
def emptinessErrorsSpec : ChangeSpec := { name := "emptinessErrors", fn := fun _ => fun
  | [d1, d2, d3] => { results := [.lit (.bool true)], args := [d1, d2, d3] }
  | _ => none }
def emptinessErrorsRow : OpenClaim := { program := "ytknnjemehafecaagreat", sum := "957c686b32db7c1717d2cc0c5029305b0de31bd70baf966eb637f053d2480934", func := "palmette/palmettelaw36.EmptinessErrors", spec := "emptinessErrors", unfollowed := true, recurses := true, plainKeys := false, apart := false }
def EmptinessErrorsSaid : Prop := emptinessErrorsRow.holds Tryz.pinned (OpenSpec.ofChange emptinessErrorsSpec)

/-- ITS FALSE NEIGHBOUR: 'it returns false'. Refute it at one input. -/
def emptinessErrorsWrong : ChangeSpec := { name := "emptinessErrors", fn := fun _ => fun
  | [d1, d2, d3] => { results := [.lit (.bool false)], args := [d1, d2, d3] }
  | _ => none }
def EmptinessErrorsWrongFalsely : Prop := emptinessErrorsRow.holds Tryz.pinned (OpenSpec.ofChange emptinessErrorsWrong)

/-- 'palmettelaw36.EmptinessSelf': WHATEVER THE INPUT: true; the input reads as it did. -/
def emptinessSelfSpec : ChangeSpec := { name := "emptinessSelf", fn := fun _ => fun
  | [d] => { results := [.lit (.bool true)], args := [d] }
  | _ => none }
def emptinessSelfRow : OpenClaim := { program := "ytknnjemehafecaagreat", sum := "957c686b32db7c1717d2cc0c5029305b0de31bd70baf966eb637f053d2480934", func := "palmette/palmettelaw36.EmptinessSelf", spec := "emptinessSelf", unfollowed := true, recurses := true, plainKeys := false, apart := false }
def EmptinessSelfSaid : Prop := emptinessSelfRow.holds Tryz.pinned (OpenSpec.ofChange emptinessSelfSpec)

/-- ITS FALSE NEIGHBOUR: 'it returns false'. Refute it at one input. -/
def emptinessSelfWrong : ChangeSpec := { name := "emptinessSelf", fn := fun _ => fun
  | [d] => { results := [.lit (.bool false)], args := [d] }
  | _ => none }
def EmptinessSelfWrongFalsely : Prop := emptinessSelfRow.holds Tryz.pinned (OpenSpec.ofChange emptinessSelfWrong)

/- THE SECOND FORM. 'bulk': how many values and letters a reading holds, each counted each time it is reached (what is shared counts as often as it is met; a slice's spare places count too). A statement '..UptoSaid' is the law's where the arguments, and the package variables that the reading takes, are together of bulk at most 1048576: NARROWER than '..Said'. Prove '..Said' where nothing that the law and all that it calls make is longer than what came in: it says more and counts as full. Else prove '..UptoSaid'. A law counts once. -/
mutual
def uptoBulk {H : Type} : DataW H → Nat
  | .lit (.string bytes) => bytes.length + 1
  | .lit _ => 1
  | .nil => 1
  | .ptr d => uptoBulk d + 1
  | .slice elems spare => uptoBulkAll elems + uptoBulkAll spare + 1
  | .agg parts => uptoBulkAll parts + 1
  | .iface _ d => uptoBulk d + 1
  | .map entries => uptoBulkEntries entries + 1
  | .held _ => 1
def uptoBulkAll {H : Type} : List (DataW H) → Nat
  | [] => 0
  | d :: r => uptoBulk d + uptoBulkAll r
def uptoBulkEntries {H : Type} : List (Lit × DataW H) → Nat
  | [] => 0
  | x :: r => uptoBulkEntry x + uptoBulkEntries r
def uptoBulkEntry {H : Type} : Lit × DataW H → Nat
  | (.string bytes, d) => bytes.length + uptoBulk d + 1
  | (_, d) => uptoBulk d + 1
 end
def uptoSmall : (H : Type) → List (DataW H) → Bool := fun _ ds => decide (uptoBulkAll ds ≤ 1048576)
def OpenSpec.upto (s : _root_.Go.ChangeSpec) : _root_.Go.OpenSpec := { _root_.Go.OpenSpec.ofChange s with cond := some uptoSmall }

/-- 'palmettelaw36.EmptinessLeastTrees', WHERE WHAT IT READS IS OF BULK AT MOST 1048576: true; the input reads as it did. -/
def emptinessLeastTreesUptoRow : OpenClaim := { program := "ytknnjemehafecaagreat", sum := "957c686b32db7c1717d2cc0c5029305b0de31bd70baf966eb637f053d2480934", func := "palmette/palmettelaw36.EmptinessLeastTrees", spec := "emptinessLeastTrees", unfollowed := true, recurses := true, plainKeys := false, apart := false, narrowed := true }
def EmptinessLeastTreesUptoSaid : Prop := emptinessLeastTreesUptoRow.holds Tryz.pinned (OpenSpec.upto emptinessLeastTreesSpec)

/-- 'palmettelaw36.EmptinessComplement', WHERE WHAT IT READS IS OF BULK AT MOST 1048576: true; the input reads as it did. -/
def emptinessComplementUptoRow : OpenClaim := { program := "ytknnjemehafecaagreat", sum := "957c686b32db7c1717d2cc0c5029305b0de31bd70baf966eb637f053d2480934", func := "palmette/palmettelaw36.EmptinessComplement", spec := "emptinessComplement", unfollowed := true, recurses := true, plainKeys := false, apart := false, narrowed := true }
def EmptinessComplementUptoSaid : Prop := emptinessComplementUptoRow.holds Tryz.pinned (OpenSpec.upto emptinessComplementSpec)

/-- 'palmettelaw36.EmptinessMinimality', WHERE WHAT IT READS IS OF BULK AT MOST 1048576: true; the input reads as it did. -/
def emptinessMinimalityUptoRow : OpenClaim := { program := "ytknnjemehafecaagreat", sum := "957c686b32db7c1717d2cc0c5029305b0de31bd70baf966eb637f053d2480934", func := "palmette/palmettelaw36.EmptinessMinimality", spec := "emptinessMinimality", unfollowed := true, recurses := true, plainKeys := false, apart := false, narrowed := true }
def EmptinessMinimalityUptoSaid : Prop := emptinessMinimalityUptoRow.holds Tryz.pinned (OpenSpec.upto emptinessMinimalitySpec)

/-- 'palmettelaw36.EmptinessFinite', WHERE WHAT IT READS IS OF BULK AT MOST 1048576: true; the input reads as it did. -/
def emptinessFiniteUptoRow : OpenClaim := { program := "ytknnjemehafecaagreat", sum := "957c686b32db7c1717d2cc0c5029305b0de31bd70baf966eb637f053d2480934", func := "palmette/palmettelaw36.EmptinessFinite", spec := "emptinessFinite", unfollowed := true, recurses := true, loops := true, plainKeys := false, apart := false, narrowed := true }
def EmptinessFiniteUptoSaid : Prop := emptinessFiniteUptoRow.holds Tryz.pinned (OpenSpec.upto emptinessFiniteSpec)

/-- 'palmettelaw36.EmptinessErrors', WHERE WHAT IT READS IS OF BULK AT MOST 1048576: true; the input reads as it did. -/
def emptinessErrorsUptoRow : OpenClaim := { program := "ytknnjemehafecaagreat", sum := "957c686b32db7c1717d2cc0c5029305b0de31bd70baf966eb637f053d2480934", func := "palmette/palmettelaw36.EmptinessErrors", spec := "emptinessErrors", unfollowed := true, recurses := true, plainKeys := false, apart := false, narrowed := true }
def EmptinessErrorsUptoSaid : Prop := emptinessErrorsUptoRow.holds Tryz.pinned (OpenSpec.upto emptinessErrorsSpec)

/-- 'palmettelaw36.EmptinessSelf', WHERE WHAT IT READS IS OF BULK AT MOST 1048576: true; the input reads as it did. -/
def emptinessSelfUptoRow : OpenClaim := { program := "ytknnjemehafecaagreat", sum := "957c686b32db7c1717d2cc0c5029305b0de31bd70baf966eb637f053d2480934", func := "palmette/palmettelaw36.EmptinessSelf", spec := "emptinessSelf", unfollowed := true, recurses := true, plainKeys := false, apart := false, narrowed := true }
def EmptinessSelfUptoSaid : Prop := emptinessSelfUptoRow.holds Tryz.pinned (OpenSpec.upto emptinessSelfSpec)

end Rows
end Go.Proofs.YtknnjemehafecaaGreat
