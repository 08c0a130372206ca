/-
  DERIVED. GIVEN WITH THE SEED: THE CARDS: each row of YtgofkccnmmiciaaGreatDoorRows.lean that lists a variable, with what it lists TIED to the program's text (the seventh form; the later family's looks); each row that meets fmt, with fmt's text TOLD by the authors' own Lean function (tested against real Go, not proved from fmt's source: count such statements apart). THE CARD IS WHAT COUNTS. Prove the row's statement (the work); the ties are given (YtgofkccnmmiciaaGreatDoorTie.lean); close each card by the builder's one call (the guide's Derived/Test/ToyasCard.lean, 'card_holds'). Laid BY PROGRAM, IN A SANDBOX (cutbox-door.mjs). By AI agents, Wed Nov 11 2026. No macro, syntax, notation, axiom, sorry.
-/
import Derived.Test.YtgofkccnmmiciaaGreatDoorRows
import GoSem.ClaimSeven
namespace Go.Proofs.YtgofkccnmmiciaaGreatDoor
namespace Rows

/-- THE TIED CARD OF 'tinsellaw08.FaultLegal'. -/
def faultLegalCard : Claim7 := { stood := { row := faultLegalRow, standIns := [], harness := (true, "bedcc6bfbf2c02ac4cd7c477ba3d5419c258439ba8b4db12eae3ab035b82584b"), looks := true }, kinds := [], alts := [], laidByText := true, laidKinds := [.data], laidTests := true, laidLooks := .later }
def FaultLegalCardSaid : Prop := Claim7.holds Tryz.pinned (.plain (OpenSpec.ofChange faultLegalSpec)) faultLegalCard

/-- THE SECOND FORM's CARD OF 'tinsellaw08.FaultLegal'. -/
def faultLegalUptoCard : Claim7 := { stood := { row := faultLegalUptoRow, standIns := [], harness := (true, "bedcc6bfbf2c02ac4cd7c477ba3d5419c258439ba8b4db12eae3ab035b82584b"), looks := true }, kinds := [], alts := [], laidByText := true, laidKinds := [.data], laidTests := true, laidLooks := .later }
def FaultLegalUptoCardSaid : Prop := Claim7.holds Tryz.pinned (.plain (OpenSpec.upto faultLegalSpec)) faultLegalUptoCard
end Rows
end Go.Proofs.YtgofkccnmmiciaaGreatDoor
