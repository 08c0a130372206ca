/-
  DERIVED. GIVEN WITH THE SEED: THE CARDS: each row of YtoglpmfmnknlaaaGreatDoorRows.lean that lists a variable, with what it lists TIED to the program's text (the seventh form; the later family's looks); each row that meets fmt, with fmt's text TOLD by the authors' own Lean function (tested against real Go, not proved from fmt's source: count such statements apart). THE CARD IS WHAT COUNTS. Prove the row's statement (the work); the ties are given (YtoglpmfmnknlaaaGreatDoorTie.lean); close each card by the builder's one call (the guide's Derived/Test/ToyasCard.lean, 'card_holds'). Laid BY PROGRAM, IN A SANDBOX (cutbox-door.mjs). By AI agents, Wed Nov 11 2026. No macro, syntax, notation, axiom, sorry.
-/
import Derived.Test.YtoglpmfmnknlaaaGreatDoorRows
import GoSem.ClaimSeven
namespace Go.Proofs.YtoglpmfmnknlaaaGreatDoor
namespace Rows

/-- THE TIED CARD OF 'tinsellaw06.TreeNames'. -/
def treeNamesCard : Claim7 := { stood := { row := treeNamesRow, standIns := [], harness := (true, "0a34bf1aa24f6847dac363a9e6d5aeea8cb3cbdb8e67d475df6d77702e006685"), looks := true }, kinds := [], alts := [], laidByText := true, laidKinds := [.data], laidTests := true, laidLooks := .later }
def TreeNamesCardSaid : Prop := Claim7.holds Tryz.pinned (.plain (OpenSpec.ofChange treeNamesSpec)) treeNamesCard

/-- THE TIED CARD OF 'tinsellaw08.FaultNames'. -/
def faultNamesCard : Claim7 := { stood := { row := faultNamesRow, standIns := [], harness := (true, "0a34bf1aa24f6847dac363a9e6d5aeea8cb3cbdb8e67d475df6d77702e006685"), looks := true }, kinds := [], alts := [], laidByText := true, laidKinds := [.data], laidTests := true, laidLooks := .later }
def FaultNamesCardSaid : Prop := Claim7.holds Tryz.pinned (.plain (OpenSpec.ofChange faultNamesSpec)) faultNamesCard

/-- THE TIED CARD OF 'tinsellaw08.FaultLegal'. -/
def faultLegalCard : Claim7 := { stood := { row := faultLegalRow, standIns := [], harness := (true, "0a34bf1aa24f6847dac363a9e6d5aeea8cb3cbdb8e67d475df6d77702e006685"), looks := true }, kinds := [], alts := [], laidByText := true, laidKinds := [.data], laidTests := true, laidLooks := .later }
def FaultLegalCardSaid : Prop := Claim7.holds Tryz.pinned (.plain (OpenSpec.ofChange faultLegalSpec)) faultLegalCard

/-- THE TIED CARD OF 'tinsellaw08.FaultNone'. -/
def faultNoneCard : Claim7 := { stood := { row := faultNoneRow, standIns := [], harness := (true, "0a34bf1aa24f6847dac363a9e6d5aeea8cb3cbdb8e67d475df6d77702e006685"), looks := true }, kinds := [], alts := [], laidByText := true, laidKinds := [.data], laidTests := true, laidLooks := .later }
def FaultNoneCardSaid : Prop := Claim7.holds Tryz.pinned (.plain (OpenSpec.ofChange faultNoneSpec)) faultNoneCard

/-- THE TIED CARD OF 'tinsellaw07.DescNone'. -/
def descNoneCard : Claim7 := { stood := { row := descNoneRow, standIns := [], harness := (true, "0a34bf1aa24f6847dac363a9e6d5aeea8cb3cbdb8e67d475df6d77702e006685"), looks := true }, kinds := [], alts := [], laidByText := true, laidKinds := [.data], laidTests := true, laidLooks := .later }
def DescNoneCardSaid : Prop := Claim7.holds Tryz.pinned (.plain (OpenSpec.ofChange descNoneSpec)) descNoneCard

/-- THE TIED CARD OF 'tinsellaw10.BufNone'. -/
def bufNoneCard : Claim7 := { stood := { row := bufNoneRow, standIns := [], harness := (true, "0a34bf1aa24f6847dac363a9e6d5aeea8cb3cbdb8e67d475df6d77702e006685"), looks := true }, kinds := [], alts := [], laidByText := true, laidKinds := [.data], laidTests := true, laidLooks := .later }
def BufNoneCardSaid : Prop := Claim7.holds Tryz.pinned (.plain (OpenSpec.ofChange bufNoneSpec)) bufNoneCard

/-- THE TIED CARD OF 'tinsellaw14.WalkNames'. -/
def walkNamesCard : Claim7 := { stood := { row := walkNamesRow, standIns := [], harness := (true, "0a34bf1aa24f6847dac363a9e6d5aeea8cb3cbdb8e67d475df6d77702e006685"), looks := true }, kinds := [], alts := [], laidByText := true, laidKinds := [.data], laidTests := true, laidLooks := .later }
def WalkNamesCardSaid : Prop := Claim7.holds Tryz.pinned (.plain (OpenSpec.ofChange walkNamesSpec)) walkNamesCard

/-- THE TIED CARD OF 'tinsellaw14.WalkNone'. -/
def walkNoneCard : Claim7 := { stood := { row := walkNoneRow, standIns := [], harness := (true, "0a34bf1aa24f6847dac363a9e6d5aeea8cb3cbdb8e67d475df6d77702e006685"), looks := true }, kinds := [], alts := [], laidByText := true, laidKinds := [.data], laidTests := true, laidLooks := .later }
def WalkNoneCardSaid : Prop := Claim7.holds Tryz.pinned (.plain (OpenSpec.ofChange walkNoneSpec)) walkNoneCard

/-- THE SECOND FORM's CARD OF 'tinsellaw06.TreeNames'. -/
def treeNamesUptoCard : Claim7 := { stood := { row := treeNamesUptoRow, standIns := [], harness := (true, "0a34bf1aa24f6847dac363a9e6d5aeea8cb3cbdb8e67d475df6d77702e006685"), looks := true }, kinds := [], alts := [], laidByText := true, laidKinds := [.data], laidTests := true, laidLooks := .later }
def TreeNamesUptoCardSaid : Prop := Claim7.holds Tryz.pinned (.plain (OpenSpec.upto treeNamesSpec)) treeNamesUptoCard

/-- THE SECOND FORM's CARD OF 'tinsellaw08.FaultNames'. -/
def faultNamesUptoCard : Claim7 := { stood := { row := faultNamesUptoRow, standIns := [], harness := (true, "0a34bf1aa24f6847dac363a9e6d5aeea8cb3cbdb8e67d475df6d77702e006685"), looks := true }, kinds := [], alts := [], laidByText := true, laidKinds := [.data], laidTests := true, laidLooks := .later }
def FaultNamesUptoCardSaid : Prop := Claim7.holds Tryz.pinned (.plain (OpenSpec.upto faultNamesSpec)) faultNamesUptoCard

/-- THE SECOND FORM's CARD OF 'tinsellaw08.FaultLegal'. -/
def faultLegalUptoCard : Claim7 := { stood := { row := faultLegalUptoRow, standIns := [], harness := (true, "0a34bf1aa24f6847dac363a9e6d5aeea8cb3cbdb8e67d475df6d77702e006685"), looks := true }, kinds := [], alts := [], laidByText := true, laidKinds := [.data], laidTests := true, laidLooks := .later }
def FaultLegalUptoCardSaid : Prop := Claim7.holds Tryz.pinned (.plain (OpenSpec.upto faultLegalSpec)) faultLegalUptoCard

/-- THE SECOND FORM's CARD OF 'tinsellaw08.FaultNone'. -/
def faultNoneUptoCard : Claim7 := { stood := { row := faultNoneUptoRow, standIns := [], harness := (true, "0a34bf1aa24f6847dac363a9e6d5aeea8cb3cbdb8e67d475df6d77702e006685"), looks := true }, kinds := [], alts := [], laidByText := true, laidKinds := [.data], laidTests := true, laidLooks := .later }
def FaultNoneUptoCardSaid : Prop := Claim7.holds Tryz.pinned (.plain (OpenSpec.upto faultNoneSpec)) faultNoneUptoCard

/-- THE SECOND FORM's CARD OF 'tinsellaw07.DescNone'. -/
def descNoneUptoCard : Claim7 := { stood := { row := descNoneUptoRow, standIns := [], harness := (true, "0a34bf1aa24f6847dac363a9e6d5aeea8cb3cbdb8e67d475df6d77702e006685"), looks := true }, kinds := [], alts := [], laidByText := true, laidKinds := [.data], laidTests := true, laidLooks := .later }
def DescNoneUptoCardSaid : Prop := Claim7.holds Tryz.pinned (.plain (OpenSpec.upto descNoneSpec)) descNoneUptoCard

/-- THE SECOND FORM's CARD OF 'tinsellaw10.BufNone'. -/
def bufNoneUptoCard : Claim7 := { stood := { row := bufNoneUptoRow, standIns := [], harness := (true, "0a34bf1aa24f6847dac363a9e6d5aeea8cb3cbdb8e67d475df6d77702e006685"), looks := true }, kinds := [], alts := [], laidByText := true, laidKinds := [.data], laidTests := true, laidLooks := .later }
def BufNoneUptoCardSaid : Prop := Claim7.holds Tryz.pinned (.plain (OpenSpec.upto bufNoneSpec)) bufNoneUptoCard

/-- THE SECOND FORM's CARD OF 'tinsellaw14.WalkNames'. -/
def walkNamesUptoCard : Claim7 := { stood := { row := walkNamesUptoRow, standIns := [], harness := (true, "0a34bf1aa24f6847dac363a9e6d5aeea8cb3cbdb8e67d475df6d77702e006685"), looks := true }, kinds := [], alts := [], laidByText := true, laidKinds := [.data], laidTests := true, laidLooks := .later }
def WalkNamesUptoCardSaid : Prop := Claim7.holds Tryz.pinned (.plain (OpenSpec.upto walkNamesSpec)) walkNamesUptoCard

/-- THE SECOND FORM's CARD OF 'tinsellaw14.WalkNone'. -/
def walkNoneUptoCard : Claim7 := { stood := { row := walkNoneUptoRow, standIns := [], harness := (true, "0a34bf1aa24f6847dac363a9e6d5aeea8cb3cbdb8e67d475df6d77702e006685"), looks := true }, kinds := [], alts := [], laidByText := true, laidKinds := [.data], laidTests := true, laidLooks := .later }
def WalkNoneUptoCardSaid : Prop := Claim7.holds Tryz.pinned (.plain (OpenSpec.upto walkNoneSpec)) walkNoneUptoCard
end Rows
end Go.Proofs.YtoglpmfmnknlaaaGreatDoor
