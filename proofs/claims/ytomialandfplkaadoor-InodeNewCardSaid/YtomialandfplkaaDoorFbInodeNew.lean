/- The law inodeNew: closed facts of its row. -/
import Derived.Test.YtomialandfplkaaDoorCards
import Derived.Test.YtomialandfplkaaDoorTie
import Derived.ProofKit
import Derived.OpenShut
namespace Go.Proofs.YtomialandfplkaaDoor.inodeNew
open Go.ChangeShapes Go.WideShapes Go.ChangeAt Go.RowKit
set_option maxRecDepth 100000
theorem g9 : (Rows.inodeNewRow.inPlace == Tryd.pinned.checked.prog.inPlace 10) = true := by kernel_rfl
theorem g10 : (Rows.inodeNewRow.unfollowed == Tryd.pinned.checked.prog.unfollowed 10) = true := by kernel_rfl
theorem g11 : (Rows.inodeNewRow.recurses == Tryd.pinned.checked.prog.recurses 10) = true := by kernel_rfl
theorem g12 : (Rows.inodeNewRow.named == Tryd.pinned.checked.prog.varsNamed 10) = true := by kernel_rfl
end Go.Proofs.YtomialandfplkaaDoor.inodeNew

