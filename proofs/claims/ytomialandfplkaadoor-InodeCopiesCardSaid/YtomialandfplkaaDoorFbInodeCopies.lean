/- The law inodeCopies: closed facts of its row. -/
import Derived.Test.YtomialandfplkaaDoorCards
import Derived.Test.YtomialandfplkaaDoorTie
import Derived.ProofKit
import Derived.OpenShut
namespace Go.Proofs.YtomialandfplkaaDoor.inodeCopies
open Go.ChangeShapes Go.WideShapes Go.ChangeAt Go.RowKit
set_option maxRecDepth 100000
theorem g9 : (Rows.inodeCopiesRow.inPlace == Tryd.pinned.checked.prog.inPlace 13) = true := by kernel_rfl
theorem g10 : (Rows.inodeCopiesRow.unfollowed == Tryd.pinned.checked.prog.unfollowed 13) = true := by kernel_rfl
theorem g11 : (Rows.inodeCopiesRow.recurses == Tryd.pinned.checked.prog.recurses 13) = true := by kernel_rfl
theorem g12 : (Rows.inodeCopiesRow.named == Tryd.pinned.checked.prog.varsNamed 13) = true := by kernel_rfl
end Go.Proofs.YtomialandfplkaaDoor.inodeCopies

