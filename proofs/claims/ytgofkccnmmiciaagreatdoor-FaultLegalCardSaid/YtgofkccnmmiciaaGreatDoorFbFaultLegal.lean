/- The law faultLegal: closed facts of its row. -/
import Derived.Test.YtgofkccnmmiciaaGreatDoorCards
import Derived.Test.YtgofkccnmmiciaaGreatDoorTie
import Derived.ProofKit
import Derived.OpenShut
namespace Go.Proofs.YtgofkccnmmiciaaGreatDoor.faultLegal
open Go.ChangeShapes Go.WideShapes Go.ChangeAt Go.RowKit
set_option maxRecDepth 100000
theorem g9 : (Rows.faultLegalRow.inPlace == Tryz.pinned.checked.prog.inPlace 3) = true := by kernel_rfl
theorem g10 : (Rows.faultLegalRow.unfollowed == Tryz.pinned.checked.prog.unfollowed 3) = true := by kernel_rfl
theorem g11 : (Rows.faultLegalRow.recurses == Tryz.pinned.checked.prog.recurses 3) = true := by kernel_rfl
theorem g12 : (Rows.faultLegalRow.named == Tryz.pinned.checked.prog.varsNamed 3) = true := by kernel_rfl
end Go.Proofs.YtgofkccnmmiciaaGreatDoor.faultLegal

