/- The law faultNames: closed facts of its row. -/
import Derived.Test.YtoglpmfmnknlaaaGreatDoorCards
import Derived.Test.YtoglpmfmnknlaaaGreatDoorTie
import Derived.ProofKit
import Derived.OpenShut
namespace Go.Proofs.YtoglpmfmnknlaaaGreatDoor.faultNames
open Go.ChangeShapes Go.WideShapes Go.ChangeAt Go.RowKit
set_option maxRecDepth 100000
theorem g0 : (Rows.faultNamesRow.wf (OpenSpec.ofChange ((OpenSpec.ofChange Rows.faultNamesSpec)).bare)) = true := by kernel_rfl
theorem g1 : (laidOutB Tryz.pinned.checked.prog) = true := by kernel_rfl
theorem g2 : (mapsRowed Tryz.pinned.checked.prog) = true := by kernel_rfl
theorem g3 : (Tryz.f4.params.all (Tryz.pinned.checked.prog.readableRec ·)) = true := by kernel_rfl
theorem g4 : (namedTie Tryz.pinned.checked.prog Rows.faultNamesRow.named ((OpenSpec.ofChange Rows.faultNamesSpec)).bare.vars) = true := by kernel_rfl
theorem g5 : (Rows.faultNamesRow.stops == []) = true := by kernel_rfl
theorem g6 : (Tryz.pinned.checked.prog.stops == []) = true := by kernel_rfl
theorem g7 : (Rows.faultNamesRow.knobs == []) = true := by kernel_rfl
theorem g8 : (Tryz.pinned.checked.prog.stopKnobs == []) = true := by kernel_rfl
end Go.Proofs.YtoglpmfmnknlaaaGreatDoor.faultNames

