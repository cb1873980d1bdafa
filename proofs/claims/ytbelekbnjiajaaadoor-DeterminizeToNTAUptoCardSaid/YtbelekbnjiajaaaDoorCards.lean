/-
  DERIVED. GIVEN WITH THE SEED: THE CARDS: each row of YtbelekbnjiajaaaDoorRows.lean that lists a variable, with what it lists TIED to the program's text (the seventh form; the later family's looks); each row that meets fmt, with fmt's text TOLD by the authors' own Lean function (tested against real Go, not proved from fmt's source: count such statements apart). THE CARD IS WHAT COUNTS. Prove the row's statement (the work); the ties are given (YtbelekbnjiajaaaDoorTie.lean); close each card by the builder's one call (the guide's Derived/Test/ToyasCard.lean, 'card_holds'). Laid BY PROGRAM, IN A SANDBOX (cutbox-door.mjs). By AI agents, Wed Nov 11 2026. No macro, syntax, notation, axiom, sorry.
-/
import Derived.Test.YtbelekbnjiajaaaDoorRows
import GoSem.ClaimSeven
namespace Go.Proofs.YtbelekbnjiajaaaDoor
namespace Rows

/-- THE TIED CARD OF 'palmettelaw34.DeterminizeRelabel'. -/
def determinizeRelabelCard : Claim7 := { stood := { row := determinizeRelabelRow, standIns := [], harness := (true, "9c04231be7d8ef738073de802f15dd7fef283e61bdb51c8981344baff0b87315"), looks := false }, kinds := [], alts := [], laidByText := true, laidKinds := [.data], laidTests := true, laidLooks := .later }
def DeterminizeRelabelCardSaid : Prop := Claim7.holds Tryd.pinned (.plain (OpenSpec.ofChange determinizeRelabelSpec)) determinizeRelabelCard

/-- THE TIED CARD OF 'palmettelaw34.DeterminizeSubsets'. -/
def determinizeSubsetsCard : Claim7 := { stood := { row := determinizeSubsetsRow, standIns := [], harness := (true, "9c04231be7d8ef738073de802f15dd7fef283e61bdb51c8981344baff0b87315"), looks := false }, kinds := [], alts := [], laidByText := true, laidKinds := [.data], laidTests := true, laidLooks := .later }
def DeterminizeSubsetsCardSaid : Prop := Claim7.holds Tryd.pinned (.plain (OpenSpec.ofChange determinizeSubsetsSpec)) determinizeSubsetsCard

/-- THE TIED CARD OF 'palmettelaw34.DeterminizeToNTA'. -/
def determinizeToNTACard : Claim7 := { stood := { row := determinizeToNTARow, standIns := [], harness := (true, "9c04231be7d8ef738073de802f15dd7fef283e61bdb51c8981344baff0b87315"), looks := false }, kinds := [], alts := [], laidByText := true, laidKinds := [.data], laidTests := true, laidLooks := .later }
def DeterminizeToNTACardSaid : Prop := Claim7.holds Tryd.pinned (.plain (OpenSpec.ofChange determinizeToNTASpec)) determinizeToNTACard

/-- THE TIED CARD OF 'palmettelaw34.DeterminizeInverseRelabel'. -/
def determinizeInverseRelabelCard : Claim7 := { stood := { row := determinizeInverseRelabelRow, standIns := [], harness := (true, "9c04231be7d8ef738073de802f15dd7fef283e61bdb51c8981344baff0b87315"), looks := false }, kinds := [], alts := [], laidByText := true, laidKinds := [.data], laidTests := true, laidLooks := .later }
def DeterminizeInverseRelabelCardSaid : Prop := Claim7.holds Tryd.pinned (.plain (OpenSpec.ofChange determinizeInverseRelabelSpec)) determinizeInverseRelabelCard

/-- THE SECOND FORM's CARD OF 'palmettelaw34.DeterminizeRelabel'. -/
def determinizeRelabelUptoCard : Claim7 := { stood := { row := determinizeRelabelUptoRow, standIns := [], harness := (true, "9c04231be7d8ef738073de802f15dd7fef283e61bdb51c8981344baff0b87315"), looks := false }, kinds := [], alts := [], laidByText := true, laidKinds := [.data], laidTests := true, laidLooks := .later }
def DeterminizeRelabelUptoCardSaid : Prop := Claim7.holds Tryd.pinned (.plain (OpenSpec.upto determinizeRelabelSpec)) determinizeRelabelUptoCard

/-- THE SECOND FORM's CARD OF 'palmettelaw34.DeterminizeSubsets'. -/
def determinizeSubsetsUptoCard : Claim7 := { stood := { row := determinizeSubsetsUptoRow, standIns := [], harness := (true, "9c04231be7d8ef738073de802f15dd7fef283e61bdb51c8981344baff0b87315"), looks := false }, kinds := [], alts := [], laidByText := true, laidKinds := [.data], laidTests := true, laidLooks := .later }
def DeterminizeSubsetsUptoCardSaid : Prop := Claim7.holds Tryd.pinned (.plain (OpenSpec.upto determinizeSubsetsSpec)) determinizeSubsetsUptoCard

/-- THE SECOND FORM's CARD OF 'palmettelaw34.DeterminizeToNTA'. -/
def determinizeToNTAUptoCard : Claim7 := { stood := { row := determinizeToNTAUptoRow, standIns := [], harness := (true, "9c04231be7d8ef738073de802f15dd7fef283e61bdb51c8981344baff0b87315"), looks := false }, kinds := [], alts := [], laidByText := true, laidKinds := [.data], laidTests := true, laidLooks := .later }
def DeterminizeToNTAUptoCardSaid : Prop := Claim7.holds Tryd.pinned (.plain (OpenSpec.upto determinizeToNTASpec)) determinizeToNTAUptoCard

/-- THE SECOND FORM's CARD OF 'palmettelaw34.DeterminizeInverseRelabel'. -/
def determinizeInverseRelabelUptoCard : Claim7 := { stood := { row := determinizeInverseRelabelUptoRow, standIns := [], harness := (true, "9c04231be7d8ef738073de802f15dd7fef283e61bdb51c8981344baff0b87315"), looks := false }, kinds := [], alts := [], laidByText := true, laidKinds := [.data], laidTests := true, laidLooks := .later }
def DeterminizeInverseRelabelUptoCardSaid : Prop := Claim7.holds Tryd.pinned (.plain (OpenSpec.upto determinizeInverseRelabelSpec)) determinizeInverseRelabelUptoCard
end Rows
end Go.Proofs.YtbelekbnjiajaaaDoor
