/- The law faultLegal: closed facts of its row. -/
import Derived.Test.YtgofkccnmmiciaaGreatDoorCards
import Derived.Test.YtgofkccnmmiciaaGreatDoorTie
import Derived.ProofKit
import Derived.OpenShut
namespace Go.Proofs.YtgofkccnmmiciaaGreatDoor.faultLegal
open Go.ChangeShapes Go.WideShapes Go.ChangeAt Go.RowKit
set_option maxRecDepth 100000
theorem g0 : (Rows.faultLegalRow.wf (OpenSpec.ofChange ((OpenSpec.ofChange Rows.faultLegalSpec)).bare)) = true := by kernel_rfl
theorem g1 : (laidOutB Tryz.pinned.checked.prog) = true := by kernel_rfl
theorem g2 : (mapsRowed Tryz.pinned.checked.prog) = true := by kernel_rfl
theorem g3 : (Tryz.f3.params.all (Tryz.pinned.checked.prog.readableRec ·)) = true := by kernel_rfl
theorem g4 : (namedTie Tryz.pinned.checked.prog Rows.faultLegalRow.named ((OpenSpec.ofChange Rows.faultLegalSpec)).bare.vars) = true := by kernel_rfl
theorem g5 : (Rows.faultLegalRow.stops == []) = true := by kernel_rfl
theorem g6 : (Tryz.pinned.checked.prog.stops == []) = true := by kernel_rfl
theorem g7 : (Rows.faultLegalRow.knobs == []) = true := by kernel_rfl
theorem g8 : (Tryz.pinned.checked.prog.stopKnobs == []) = true := by kernel_rfl
end Go.Proofs.YtgofkccnmmiciaaGreatDoor.faultLegal

