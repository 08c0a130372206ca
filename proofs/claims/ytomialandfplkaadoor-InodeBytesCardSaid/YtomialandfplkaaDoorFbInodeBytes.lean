/- The law inodeBytes: closed facts of its row. -/
import Derived.Test.YtomialandfplkaaDoorCards
import Derived.Test.YtomialandfplkaaDoorTie
import Derived.ProofKit
import Derived.OpenShut
namespace Go.Proofs.YtomialandfplkaaDoor.inodeBytes
open Go.ChangeShapes Go.WideShapes Go.ChangeAt Go.RowKit
set_option maxRecDepth 100000
theorem g9 : (Rows.inodeBytesRow.inPlace == Tryd.pinned.checked.prog.inPlace 9) = true := by kernel_rfl
theorem g10 : (Rows.inodeBytesRow.unfollowed == Tryd.pinned.checked.prog.unfollowed 9) = true := by kernel_rfl
theorem g11 : (Rows.inodeBytesRow.recurses == Tryd.pinned.checked.prog.recurses 9) = true := by kernel_rfl
theorem g12 : (Rows.inodeBytesRow.named == Tryd.pinned.checked.prog.varsNamed 9) = true := by kernel_rfl
end Go.Proofs.YtomialandfplkaaDoor.inodeBytes

