/- The law walkNames: closed facts of its row. -/
import Derived.Test.YtoglpmfmnknlaaaGreatDoorCards
import Derived.Test.YtoglpmfmnknlaaaGreatDoorTie
import Derived.ProofKit
import Derived.OpenShut
namespace Go.Proofs.YtoglpmfmnknlaaaGreatDoor.walkNames
open Go.ChangeShapes Go.WideShapes Go.ChangeAt Go.RowKit
set_option maxRecDepth 100000
theorem g0 : (Rows.walkNamesRow.wf (OpenSpec.ofChange ((OpenSpec.ofChange Rows.walkNamesSpec)).bare)) = true := by kernel_rfl
theorem g1 : (laidOutB Tryz.pinned.checked.prog) = true := by kernel_rfl
theorem g2 : (mapsRowed Tryz.pinned.checked.prog) = true := by kernel_rfl
theorem g3 : (Tryz.f9.params.all (Tryz.pinned.checked.prog.readableRec ·)) = true := by kernel_rfl
theorem g4 : (namedTie Tryz.pinned.checked.prog Rows.walkNamesRow.named ((OpenSpec.ofChange Rows.walkNamesSpec)).bare.vars) = true := by kernel_rfl
theorem g5 : (Rows.walkNamesRow.stops == []) = true := by kernel_rfl
theorem g6 : (Tryz.pinned.checked.prog.stops == []) = true := by kernel_rfl
theorem g7 : (Rows.walkNamesRow.knobs == []) = true := by kernel_rfl
theorem g8 : (Tryz.pinned.checked.prog.stopKnobs == []) = true := by kernel_rfl
end Go.Proofs.YtoglpmfmnknlaaaGreatDoor.walkNames

