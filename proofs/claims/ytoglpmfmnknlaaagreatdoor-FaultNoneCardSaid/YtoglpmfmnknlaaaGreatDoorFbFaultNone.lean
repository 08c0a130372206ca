/- The law faultNone: closed facts of its row. -/
import Derived.Test.YtoglpmfmnknlaaaGreatDoorCards
import Derived.Test.YtoglpmfmnknlaaaGreatDoorTie
import Derived.ProofKit
import Derived.OpenShut
namespace Go.Proofs.YtoglpmfmnknlaaaGreatDoor.faultNone
open Go.ChangeShapes Go.WideShapes Go.ChangeAt Go.RowKit
set_option maxRecDepth 100000
theorem g9 : (Rows.faultNoneRow.inPlace == Tryz.pinned.checked.prog.inPlace 6) = true := by kernel_rfl
theorem g10 : (Rows.faultNoneRow.unfollowed == Tryz.pinned.checked.prog.unfollowed 6) = true := by kernel_rfl
theorem g11 : (Rows.faultNoneRow.recurses == Tryz.pinned.checked.prog.recurses 6) = true := by kernel_rfl
theorem g12 : (Rows.faultNoneRow.named == Tryz.pinned.checked.prog.varsNamed 6) = true := by kernel_rfl
end Go.Proofs.YtoglpmfmnknlaaaGreatDoor.faultNone

