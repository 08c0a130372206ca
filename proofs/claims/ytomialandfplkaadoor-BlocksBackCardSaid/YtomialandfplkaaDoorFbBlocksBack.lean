/- The law blocksBack: closed facts of its row. -/
import Derived.Test.YtomialandfplkaaDoorCards
import Derived.Test.YtomialandfplkaaDoorTie
import Derived.ProofKit
import Derived.OpenShut
namespace Go.Proofs.YtomialandfplkaaDoor.blocksBack
open Go.ChangeShapes Go.WideShapes Go.ChangeAt Go.RowKit
set_option maxRecDepth 100000
theorem g9 : (Rows.blocksBackRow.inPlace == Tryd.pinned.checked.prog.inPlace 4) = true := by kernel_rfl
theorem g10 : (Rows.blocksBackRow.unfollowed == Tryd.pinned.checked.prog.unfollowed 4) = true := by kernel_rfl
theorem g11 : (Rows.blocksBackRow.recurses == Tryd.pinned.checked.prog.recurses 4) = true := by kernel_rfl
theorem g12 : (Rows.blocksBackRow.named == Tryd.pinned.checked.prog.varsNamed 4) = true := by kernel_rfl
end Go.Proofs.YtomialandfplkaaDoor.blocksBack

