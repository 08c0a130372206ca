/- The law blocksActs: closed facts of its row. -/
import Derived.Test.YtomialandfplkaaDoorCards
import Derived.Test.YtomialandfplkaaDoorTie
import Derived.ProofKit
import Derived.OpenShut
namespace Go.Proofs.YtomialandfplkaaDoor.blocksActs
open Go.ChangeShapes Go.WideShapes Go.ChangeAt Go.RowKit
set_option maxRecDepth 100000
theorem g9 : (Rows.blocksActsRow.inPlace == Tryd.pinned.checked.prog.inPlace 5) = true := by kernel_rfl
theorem g10 : (Rows.blocksActsRow.unfollowed == Tryd.pinned.checked.prog.unfollowed 5) = true := by kernel_rfl
theorem g11 : (Rows.blocksActsRow.recurses == Tryd.pinned.checked.prog.recurses 5) = true := by kernel_rfl
theorem g12 : (Rows.blocksActsRow.named == Tryd.pinned.checked.prog.varsNamed 5) = true := by kernel_rfl
end Go.Proofs.YtomialandfplkaaDoor.blocksActs

