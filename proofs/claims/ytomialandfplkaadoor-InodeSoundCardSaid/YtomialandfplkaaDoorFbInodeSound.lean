/- The law inodeSound: closed facts of its row. -/
import Derived.Test.YtomialandfplkaaDoorCards
import Derived.Test.YtomialandfplkaaDoorTie
import Derived.ProofKit
import Derived.OpenShut
namespace Go.Proofs.YtomialandfplkaaDoor.inodeSound
open Go.ChangeShapes Go.WideShapes Go.ChangeAt Go.RowKit
set_option maxRecDepth 100000
theorem g9 : (Rows.inodeSoundRow.inPlace == Tryd.pinned.checked.prog.inPlace 11) = true := by kernel_rfl
theorem g10 : (Rows.inodeSoundRow.unfollowed == Tryd.pinned.checked.prog.unfollowed 11) = true := by kernel_rfl
theorem g11 : (Rows.inodeSoundRow.recurses == Tryd.pinned.checked.prog.recurses 11) = true := by kernel_rfl
theorem g12 : (Rows.inodeSoundRow.named == Tryd.pinned.checked.prog.varsNamed 11) = true := by kernel_rfl
end Go.Proofs.YtomialandfplkaaDoor.inodeSound

