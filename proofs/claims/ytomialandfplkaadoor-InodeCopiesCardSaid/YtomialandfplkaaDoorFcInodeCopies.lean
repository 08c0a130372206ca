/- The law inodeCopies: closed facts of its row. -/
import Derived.Test.YtomialandfplkaaDoorCards
import Derived.Test.YtomialandfplkaaDoorTie
import Derived.ProofKit
import Derived.OpenShut
namespace Go.Proofs.YtomialandfplkaaDoor.inodeCopies
open Go.ChangeShapes Go.WideShapes Go.ChangeAt Go.RowKit
set_option maxRecDepth 100000
theorem g22 : (Rows.inodeCopiesRow.plainKeys == Tryd.pinned.checked.prog.plainKeys) = true := by kernel_rfl
theorem g23 : (Rows.inodeCopiesRow.shortTexts.isNone) = true := by kernel_rfl
theorem g24 : (Tryd.pinned.checked.prog.stopsHeard) = true := by kernel_rfl
theorem g25 : (Tryd.pinned.checked.prog.mayEnter) = true := by kernel_rfl
end Go.Proofs.YtomialandfplkaaDoor.inodeCopies

