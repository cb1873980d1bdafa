/-
  DERIVED. GIVEN WITH THE SEED: THE CARDS: each row of YtdclodapkhgabaaGreatDoorRows.lean that lists a variable, with what it lists TIED to the program's text (the seventh form; the later family's looks); each row that meets fmt, with fmt's text TOLD by the authors' own Lean function (tested against real Go, not proved from fmt's source: count such statements apart). THE CARD IS WHAT COUNTS. Prove the row's statement (the work); the ties are given (YtdclodapkhgabaaGreatDoorTie.lean); close each card by the builder's one call (the guide's Derived/Test/ToyasCard.lean, 'card_holds'). Laid BY PROGRAM, IN A SANDBOX (cutbox-door.mjs). By AI agents, Wed Nov 11 2026. No macro, syntax, notation, axiom, sorry.
-/
import Derived.Test.YtdclodapkhgabaaGreatDoorRows
import GoSem.ClaimSeven
namespace Go.Proofs.YtdclodapkhgabaaGreatDoor
namespace Rows

/-- THE TIED CARD OF 'palmettelaw34.DeterminizeWitness'. -/
def determinizeWitnessCard : Claim7 := { stood := { row := determinizeWitnessRow, standIns := [], harness := (true, "da34ec71190abc8b676523904e1e9bbaac35121a7cb6e0fee06ae677956c3eba"), looks := false }, kinds := [], alts := [], laidByText := true, laidKinds := [.data], laidTests := true, laidLooks := .later }
def DeterminizeWitnessCardSaid : Prop := Claim7.holds Tryz.pinned (.plain (OpenSpec.ofChange determinizeWitnessSpec)) determinizeWitnessCard

/-- THE TIED CARD OF 'palmettelaw34.DeterminizeLanguage'. -/
def determinizeLanguageCard : Claim7 := { stood := { row := determinizeLanguageRow, standIns := [], harness := (true, "da34ec71190abc8b676523904e1e9bbaac35121a7cb6e0fee06ae677956c3eba"), looks := false }, kinds := [], alts := [], laidByText := true, laidKinds := [.data], laidTests := true, laidLooks := .later }
def DeterminizeLanguageCardSaid : Prop := Claim7.holds Tryz.pinned (.plain (OpenSpec.ofChange determinizeLanguageSpec)) determinizeLanguageCard

/-- THE TIED CARD OF 'palmettelaw34.DeterminizeProject'. -/
def determinizeProjectCard : Claim7 := { stood := { row := determinizeProjectRow, standIns := [], harness := (true, "da34ec71190abc8b676523904e1e9bbaac35121a7cb6e0fee06ae677956c3eba"), looks := false }, kinds := [], alts := [], laidByText := true, laidKinds := [.data], laidTests := true, laidLooks := .later }
def DeterminizeProjectCardSaid : Prop := Claim7.holds Tryz.pinned (.plain (OpenSpec.ofChange determinizeProjectSpec)) determinizeProjectCard

/-- THE SECOND FORM's CARD OF 'palmettelaw34.DeterminizeWitness'. -/
def determinizeWitnessUptoCard : Claim7 := { stood := { row := determinizeWitnessUptoRow, standIns := [], harness := (true, "da34ec71190abc8b676523904e1e9bbaac35121a7cb6e0fee06ae677956c3eba"), looks := false }, kinds := [], alts := [], laidByText := true, laidKinds := [.data], laidTests := true, laidLooks := .later }
def DeterminizeWitnessUptoCardSaid : Prop := Claim7.holds Tryz.pinned (.plain (OpenSpec.upto determinizeWitnessSpec)) determinizeWitnessUptoCard

/-- THE SECOND FORM's CARD OF 'palmettelaw34.DeterminizeLanguage'. -/
def determinizeLanguageUptoCard : Claim7 := { stood := { row := determinizeLanguageUptoRow, standIns := [], harness := (true, "da34ec71190abc8b676523904e1e9bbaac35121a7cb6e0fee06ae677956c3eba"), looks := false }, kinds := [], alts := [], laidByText := true, laidKinds := [.data], laidTests := true, laidLooks := .later }
def DeterminizeLanguageUptoCardSaid : Prop := Claim7.holds Tryz.pinned (.plain (OpenSpec.upto determinizeLanguageSpec)) determinizeLanguageUptoCard

/-- THE SECOND FORM's CARD OF 'palmettelaw34.DeterminizeProject'. -/
def determinizeProjectUptoCard : Claim7 := { stood := { row := determinizeProjectUptoRow, standIns := [], harness := (true, "da34ec71190abc8b676523904e1e9bbaac35121a7cb6e0fee06ae677956c3eba"), looks := false }, kinds := [], alts := [], laidByText := true, laidKinds := [.data], laidTests := true, laidLooks := .later }
def DeterminizeProjectUptoCardSaid : Prop := Claim7.holds Tryz.pinned (.plain (OpenSpec.upto determinizeProjectSpec)) determinizeProjectUptoCard
end Rows
end Go.Proofs.YtdclodapkhgabaaGreatDoor
