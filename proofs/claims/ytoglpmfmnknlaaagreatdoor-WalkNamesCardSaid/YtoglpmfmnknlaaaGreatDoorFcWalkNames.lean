/- The law walkNames: closed facts of its row. -/
import Derived.Test.YtoglpmfmnknlaaaGreatDoorCards
import Derived.Test.YtoglpmfmnknlaaaGreatDoorTie
import Derived.ProofKit
import Derived.OpenShut
namespace Go.Proofs.YtoglpmfmnknlaaaGreatDoor.walkNames
open Go.ChangeShapes Go.WideShapes Go.ChangeAt Go.RowKit
set_option maxRecDepth 100000
theorem g22 : (Rows.walkNamesRow.plainKeys == Tryz.pinned.checked.prog.plainKeys) = true := by kernel_rfl
theorem g23 : (Rows.walkNamesRow.shortTexts.isNone) = true := by kernel_rfl
theorem g24 : (Tryz.pinned.checked.prog.stopsHeard) = true := by kernel_rfl
theorem g25 : (Tryz.pinned.checked.prog.mayEnter) = true := by kernel_rfl
end Go.Proofs.YtoglpmfmnknlaaaGreatDoor.walkNames

