/- The law inodeRuns: closed facts of its row. -/
import Derived.Test.YtomialandfplkaaDoorCards
import Derived.Test.YtomialandfplkaaDoorTie
import Derived.ProofKit
import Derived.OpenShut
namespace Go.Proofs.YtomialandfplkaaDoor.inodeRuns
open Go.ChangeShapes Go.WideShapes Go.ChangeAt Go.RowKit
set_option maxRecDepth 100000
theorem g9 : (Rows.inodeRunsRow.inPlace == Tryd.pinned.checked.prog.inPlace 12) = true := by kernel_rfl
theorem g10 : (Rows.inodeRunsRow.unfollowed == Tryd.pinned.checked.prog.unfollowed 12) = true := by kernel_rfl
theorem g11 : (Rows.inodeRunsRow.recurses == Tryd.pinned.checked.prog.recurses 12) = true := by kernel_rfl
theorem g12 : (Rows.inodeRunsRow.named == Tryd.pinned.checked.prog.varsNamed 12) = true := by kernel_rfl
end Go.Proofs.YtomialandfplkaaDoor.inodeRuns

