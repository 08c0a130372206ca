/-
  DERIVED. GIVEN WITH THE SEED: THE CARDS: each row of YtoglpmfmnknlaaaDoorRows.lean that lists a variable, with what it lists TIED to the program's text (the seventh form; the later family's looks); each row that meets fmt, with fmt's text TOLD by the authors' own Lean function (tested against real Go, not proved from fmt's source: count such statements apart). THE CARD IS WHAT COUNTS. Prove the row's statement (the work); the ties are given (YtoglpmfmnknlaaaDoorTie.lean); close each card by the builder's one call (the guide's Derived/Test/ToyasCard.lean, 'card_holds'). Laid BY PROGRAM, IN A SANDBOX (cutbox-door.mjs). By AI agents, Wed Nov 11 2026. No macro, syntax, notation, axiom, sorry.
-/
import Derived.Test.YtoglpmfmnknlaaaDoorRows
import GoSem.ClaimSeven
namespace Go.Proofs.YtoglpmfmnknlaaaDoor
namespace Rows

/-- THE TIED CARD OF 'tinsellaw04.DirNames'. -/
def dirNamesCard : Claim7 := { stood := { row := dirNamesRow, standIns := [], harness := (true, "79d36f4532962a4552a018b3e559d4612bf62b2e75f11b80672bcd5cfbebc759"), looks := false }, kinds := [], alts := [], laidByText := true, laidKinds := [.data], laidTests := true, laidLooks := .later }
def DirNamesCardSaid : Prop := Claim7.holds Tryd.pinned (.plain (OpenSpec.ofChange dirNamesSpec)) dirNamesCard

/-- THE TIED CARD OF 'tinsellaw04.DirNone'. -/
def dirNoneCard : Claim7 := { stood := { row := dirNoneRow, standIns := [], harness := (true, "79d36f4532962a4552a018b3e559d4612bf62b2e75f11b80672bcd5cfbebc759"), looks := false }, kinds := [], alts := [], laidByText := true, laidKinds := [.data], laidTests := true, laidLooks := .later }
def DirNoneCardSaid : Prop := Claim7.holds Tryd.pinned (.plain (OpenSpec.ofChange dirNoneSpec)) dirNoneCard

/-- THE SECOND FORM's CARD OF 'tinsellaw04.DirNames'. -/
def dirNamesUptoCard : Claim7 := { stood := { row := dirNamesUptoRow, standIns := [], harness := (true, "79d36f4532962a4552a018b3e559d4612bf62b2e75f11b80672bcd5cfbebc759"), looks := false }, kinds := [], alts := [], laidByText := true, laidKinds := [.data], laidTests := true, laidLooks := .later }
def DirNamesUptoCardSaid : Prop := Claim7.holds Tryd.pinned (.plain (OpenSpec.upto dirNamesSpec)) dirNamesUptoCard

/-- THE SECOND FORM's CARD OF 'tinsellaw04.DirNone'. -/
def dirNoneUptoCard : Claim7 := { stood := { row := dirNoneUptoRow, standIns := [], harness := (true, "79d36f4532962a4552a018b3e559d4612bf62b2e75f11b80672bcd5cfbebc759"), looks := false }, kinds := [], alts := [], laidByText := true, laidKinds := [.data], laidTests := true, laidLooks := .later }
def DirNoneUptoCardSaid : Prop := Claim7.holds Tryd.pinned (.plain (OpenSpec.upto dirNoneSpec)) dirNoneUptoCard
end Rows
end Go.Proofs.YtoglpmfmnknlaaaDoor
