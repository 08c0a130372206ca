/- The law faultLegal: closed facts of its row. -/
import Derived.Test.YtgofkccnmmiciaaGreatDoorCards
import Derived.Test.YtgofkccnmmiciaaGreatDoorTie
import Derived.ProofKit
import Derived.OpenShut
namespace Go.Proofs.YtgofkccnmmiciaaGreatDoor.faultLegal
open Go.ChangeShapes Go.WideShapes Go.ChangeAt Go.RowKit
set_option maxRecDepth 100000
theorem g22 : (Rows.faultLegalRow.plainKeys == Tryz.pinned.checked.prog.plainKeys) = true := by kernel_rfl
theorem g23 : (Rows.faultLegalRow.shortTexts.isNone) = true := by kernel_rfl
theorem g24 : (Tryz.pinned.checked.prog.stopsHeard) = true := by kernel_rfl
theorem g25 : (Tryz.pinned.checked.prog.mayEnter) = true := by kernel_rfl
end Go.Proofs.YtgofkccnmmiciaaGreatDoor.faultLegal

