/- The law inodeCopies: closed facts of its row. -/
import Derived.Test.YtomialandfplkaaDoorCards
import Derived.Test.YtomialandfplkaaDoorTie
import Derived.ProofKit
import Derived.OpenShut
namespace Go.Proofs.YtomialandfplkaaDoor.inodeCopies
open Go.ChangeShapes Go.WideShapes Go.ChangeAt Go.RowKit
set_option maxRecDepth 100000
theorem g0 : (Rows.inodeCopiesRow.wf (OpenSpec.ofChange ((OpenSpec.ofChange Rows.inodeCopiesSpec)).bare)) = true := by kernel_rfl
theorem g1 : (laidOutB Tryd.pinned.checked.prog) = true := by kernel_rfl
theorem g2 : (mapsRowed Tryd.pinned.checked.prog) = true := by kernel_rfl
theorem g3 : (Tryd.f13.params.all (Tryd.pinned.checked.prog.readableRec ·)) = true := by kernel_rfl
theorem g4 : (namedTie Tryd.pinned.checked.prog Rows.inodeCopiesRow.named ((OpenSpec.ofChange Rows.inodeCopiesSpec)).bare.vars) = true := by kernel_rfl
theorem g5 : (Rows.inodeCopiesRow.stops == []) = true := by kernel_rfl
theorem g6 : (Tryd.pinned.checked.prog.stops == []) = true := by kernel_rfl
theorem g7 : (Rows.inodeCopiesRow.knobs == []) = true := by kernel_rfl
theorem g8 : (Tryd.pinned.checked.prog.stopKnobs == []) = true := by kernel_rfl
end Go.Proofs.YtomialandfplkaaDoor.inodeCopies

