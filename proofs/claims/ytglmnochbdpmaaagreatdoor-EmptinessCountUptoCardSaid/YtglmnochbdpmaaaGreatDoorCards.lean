/-
  DERIVED. GIVEN WITH THE SEED: THE CARDS: each row of YtglmnochbdpmaaaGreatDoorRows.lean that lists a variable, with what it lists TIED to the program's text (the seventh form; the later family's looks); each row that meets fmt, with fmt's text TOLD by the authors' own Lean function (tested against real Go, not proved from fmt's source: count such statements apart). THE CARD IS WHAT COUNTS. Prove the row's statement (the work); the ties are given (YtglmnochbdpmaaaGreatDoorTie.lean); close each card by the builder's one call (the guide's Derived/Test/ToyasCard.lean, 'card_holds'). Laid BY PROGRAM, IN A SANDBOX (cutbox-door.mjs). By AI agents, Wed Nov 11 2026. No macro, syntax, notation, axiom, sorry.
-/
import Derived.Test.YtglmnochbdpmaaaGreatDoorRows
import GoSem.ClaimSeven
namespace Go.Proofs.YtglmnochbdpmaaaGreatDoor
namespace Rows

/-- THE TIED CARD OF 'palmettelaw36.EmptinessCount'. -/
def emptinessCountCard : Claim7 := { stood := { row := emptinessCountRow, standIns := [], harness := (true, "a4257fc36994ef193f6b5b4668a5adfbca6033e1c6016e49d142337be7097209"), looks := false }, kinds := [], alts := [], laidByText := true, laidKinds := [.data, .data, .data], laidTests := true, laidLooks := .later }
def EmptinessCountCardSaid : Prop := Claim7.holds Tryz.pinned (.plain (OpenSpec.ofChange emptinessCountSpec)) emptinessCountCard

/-- THE SECOND FORM's CARD OF 'palmettelaw36.EmptinessCount'. -/
def emptinessCountUptoCard : Claim7 := { stood := { row := emptinessCountUptoRow, standIns := [], harness := (true, "a4257fc36994ef193f6b5b4668a5adfbca6033e1c6016e49d142337be7097209"), looks := false }, kinds := [], alts := [], laidByText := true, laidKinds := [.data, .data, .data], laidTests := true, laidLooks := .later }
def EmptinessCountUptoCardSaid : Prop := Claim7.holds Tryz.pinned (.plain (OpenSpec.upto emptinessCountSpec)) emptinessCountUptoCard
end Rows
end Go.Proofs.YtglmnochbdpmaaaGreatDoor
