/- The law regexNone: closed facts of its row. -/
import Derived.Test.YtfldgookpokjeaaRows
import Derived.ProofKit
import Derived.OpenShut
namespace Go.Proofs.Ytfldgookpokjeaa.regexNone
open Go.ChangeShapes Go.WideShapes Go.ChangeAt Go.RowKit
set_option maxRecDepth 100000
theorem g0 : (Rows.regexNoneRow.wf (OpenSpec.ofChange ((OpenSpec.ofChange Rows.regexNoneSpec)).bare)) = true := by kernel_rfl
theorem g1 : (laidOutB Try.pinned.checked.prog) = true := by kernel_rfl
theorem g2 : (mapsRowed Try.pinned.checked.prog) = true := by kernel_rfl
theorem g3 : (Try.f3.params.all (Try.pinned.checked.prog.readableRec ·)) = true := by kernel_rfl
theorem g4 : (namedTie Try.pinned.checked.prog Rows.regexNoneRow.named ((OpenSpec.ofChange Rows.regexNoneSpec)).bare.vars) = true := by kernel_rfl
theorem g5 : (Rows.regexNoneRow.stops == []) = true := by kernel_rfl
theorem g6 : (Try.pinned.checked.prog.stops == []) = true := by kernel_rfl
theorem g7 : (Rows.regexNoneRow.knobs == []) = true := by kernel_rfl
theorem g8 : (Try.pinned.checked.prog.stopKnobs == []) = true := by kernel_rfl
end Go.Proofs.Ytfldgookpokjeaa.regexNone

