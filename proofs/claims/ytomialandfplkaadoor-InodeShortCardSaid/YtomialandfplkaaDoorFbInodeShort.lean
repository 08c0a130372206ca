/- The law inodeShort: closed facts of its row. -/
import Derived.Test.YtomialandfplkaaDoorCards
import Derived.Test.YtomialandfplkaaDoorTie
import Derived.ProofKit
import Derived.OpenShut
namespace Go.Proofs.YtomialandfplkaaDoor.inodeShort
open Go.ChangeShapes Go.WideShapes Go.ChangeAt Go.RowKit
set_option maxRecDepth 100000
theorem g9 : (Rows.inodeShortRow.inPlace == Tryd.pinned.checked.prog.inPlace 8) = true := by kernel_rfl
theorem g10 : (Rows.inodeShortRow.unfollowed == Tryd.pinned.checked.prog.unfollowed 8) = true := by kernel_rfl
theorem g11 : (Rows.inodeShortRow.recurses == Tryd.pinned.checked.prog.recurses 8) = true := by kernel_rfl
theorem g12 : (Rows.inodeShortRow.named == Tryd.pinned.checked.prog.varsNamed 8) = true := by kernel_rfl
end Go.Proofs.YtomialandfplkaaDoor.inodeShort

