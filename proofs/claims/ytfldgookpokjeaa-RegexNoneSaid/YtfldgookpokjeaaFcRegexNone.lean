/- The law regexNone: closed facts of its row. -/
import Derived.Test.YtfldgookpokjeaaRows
import Derived.ProofKit
import Derived.OpenShut
namespace Go.Proofs.Ytfldgookpokjeaa.regexNone
open Go.ChangeShapes Go.WideShapes Go.ChangeAt Go.RowKit
set_option maxRecDepth 100000
theorem g22 : (Rows.regexNoneRow.plainKeys == Try.pinned.checked.prog.plainKeys) = true := by kernel_rfl
theorem g23 : (Rows.regexNoneRow.shortTexts.isNone) = true := by kernel_rfl
theorem g24 : (Try.pinned.checked.prog.stopsHeard) = true := by kernel_rfl
theorem g25 : (Try.pinned.checked.prog.mayEnter) = true := by kernel_rfl
end Go.Proofs.Ytfldgookpokjeaa.regexNone

