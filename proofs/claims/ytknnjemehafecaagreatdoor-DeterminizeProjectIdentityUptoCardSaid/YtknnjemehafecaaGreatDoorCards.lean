/-
  DERIVED. GIVEN WITH THE SEED: THE CARDS: each row of YtknnjemehafecaaGreatDoorRows.lean that lists a variable, with what it lists TIED to the program's text (the seventh form; the later family's looks); each row that meets fmt, with fmt's text TOLD by the authors' own Lean function (tested against real Go, not proved from fmt's source: count such statements apart). THE CARD IS WHAT COUNTS. Prove the row's statement (the work); the ties are given (YtknnjemehafecaaGreatDoorTie.lean); close each card by the builder's one call (the guide's Derived/Test/ToyasCard.lean, 'card_holds'). Laid BY PROGRAM, IN A SANDBOX (cutbox-door.mjs). By AI agents, Wed Nov 11 2026. No macro, syntax, notation, axiom, sorry.
-/
import Derived.Test.YtknnjemehafecaaGreatDoorRows
import GoSem.ClaimSeven
namespace Go.Proofs.YtknnjemehafecaaGreatDoor
namespace Rows

/-- THE TIED CARD OF 'palmettelaw34.DeterminizeProjectIdentity'. -/
def determinizeProjectIdentityCard : Claim7 := { stood := { row := determinizeProjectIdentityRow, standIns := [], harness := (true, "ec2f562abbed5f0a8d9f664f04f4499695b89da4d7ab8264dd6e7cfe54523745"), looks := false }, kinds := [], alts := [], laidByText := true, laidKinds := [.data], laidTests := true, laidLooks := .later }
def DeterminizeProjectIdentityCardSaid : Prop := Claim7.holds Tryz.pinned (.plain (OpenSpec.ofChange determinizeProjectIdentitySpec)) determinizeProjectIdentityCard

/-- THE TIED CARD OF 'palmettelaw36.EmptinessCount'. -/
def emptinessCountCard : Claim7 := { stood := { row := emptinessCountRow, standIns := [], harness := (true, "ec2f562abbed5f0a8d9f664f04f4499695b89da4d7ab8264dd6e7cfe54523745"), looks := false }, kinds := [], alts := [], laidByText := true, laidKinds := [.data, .data, .data], laidTests := true, laidLooks := .later }
def EmptinessCountCardSaid : Prop := Claim7.holds Tryz.pinned (.plain (OpenSpec.ofChange emptinessCountSpec)) emptinessCountCard

/-- THE SECOND FORM's CARD OF 'palmettelaw34.DeterminizeProjectIdentity'. -/
def determinizeProjectIdentityUptoCard : Claim7 := { stood := { row := determinizeProjectIdentityUptoRow, standIns := [], harness := (true, "ec2f562abbed5f0a8d9f664f04f4499695b89da4d7ab8264dd6e7cfe54523745"), looks := false }, kinds := [], alts := [], laidByText := true, laidKinds := [.data], laidTests := true, laidLooks := .later }
def DeterminizeProjectIdentityUptoCardSaid : Prop := Claim7.holds Tryz.pinned (.plain (OpenSpec.upto determinizeProjectIdentitySpec)) determinizeProjectIdentityUptoCard

/-- THE SECOND FORM's CARD OF 'palmettelaw36.EmptinessCount'. -/
def emptinessCountUptoCard : Claim7 := { stood := { row := emptinessCountUptoRow, standIns := [], harness := (true, "ec2f562abbed5f0a8d9f664f04f4499695b89da4d7ab8264dd6e7cfe54523745"), looks := false }, kinds := [], alts := [], laidByText := true, laidKinds := [.data, .data, .data], laidTests := true, laidLooks := .later }
def EmptinessCountUptoCardSaid : Prop := Claim7.holds Tryz.pinned (.plain (OpenSpec.upto emptinessCountSpec)) emptinessCountUptoCard
end Rows
end Go.Proofs.YtknnjemehafecaaGreatDoor
