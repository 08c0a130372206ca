/- The law regexNone: closed facts of its row. -/
import Derived.Test.YtfldgookpokjeaaRows
import Derived.ProofKit
import Derived.OpenShut
namespace Go.Proofs.Ytfldgookpokjeaa.regexNone
open Go.ChangeShapes Go.WideShapes Go.ChangeAt Go.RowKit
set_option maxRecDepth 100000
theorem g9 : (Rows.regexNoneRow.inPlace == Try.pinned.checked.prog.inPlace 3) = true := by kernel_rfl
theorem g10 : (Rows.regexNoneRow.unfollowed == Try.pinned.checked.prog.unfollowed 3) = true := by kernel_rfl
theorem g11 : (Rows.regexNoneRow.recurses == Try.pinned.checked.prog.recurses 3) = true := by kernel_rfl
theorem g12 : (Rows.regexNoneRow.named == Try.pinned.checked.prog.varsNamed 3) = true := by kernel_rfl
end Go.Proofs.Ytfldgookpokjeaa.regexNone

