/- The law regexNone: closed facts of its row. -/
import Derived.Test.YtfldgookpokjeaaRows
import Derived.ProofKit
import Derived.OpenShut
namespace Go.Proofs.Ytfldgookpokjeaa.regexNone
open Go.ChangeShapes Go.WideShapes Go.ChangeAt Go.RowKit
set_option maxRecDepth 100000
theorem g13 : (Rows.regexNoneRow.maps == (Try.f3.params.toList ++ ((OpenSpec.ofChange Rows.regexNoneSpec)).bare.plain.varTypes Try.pinned.checked.prog).any (Try.pinned.checked.prog.mapsRec ·)) = true := by kernel_rfl
theorem g14 : (Rows.regexNoneRow.ifaces == (Try.f3.params.toList ++ ((OpenSpec.ofChange Rows.regexNoneSpec)).bare.plain.varTypes Try.pinned.checked.prog).any (Try.pinned.checked.prog.ifacesRec ·)) = true := by kernel_rfl
theorem g15 : (Rows.regexNoneRow.mapsOut == Try.pinned.checked.prog.mapsAmong Try.f3.resultTypes.toList) = true := by kernel_rfl
theorem g16 : (Rows.regexNoneRow.loops == (Try.f3.params.toList ++ ((OpenSpec.ofChange Rows.regexNoneSpec)).bare.plain.varTypes Try.pinned.checked.prog).any (Try.pinned.checked.prog.loopsFrom ·)) = true := by kernel_rfl
theorem g17 : (Rows.regexNoneRow.wideKeys == (Try.f3.params.toList ++ ((OpenSpec.ofChange Rows.regexNoneSpec)).bare.plain.varTypes Try.pinned.checked.prog ++ Try.f3.resultTypes.toList).any (Try.pinned.checked.prog.wideKeysFrom ·)) = true := by kernel_rfl
theorem g18 : (((OpenSpec.ofChange Rows.regexNoneSpec)).bare.vars.all (Try.pinned.checked.prog.varReadable ·)) = true := by kernel_rfl
theorem g19 : (Try.f3.resultTypes.all (fun t => Try.pinned.checked.prog.readableRec t && decide (t < Try.pinned.checked.prog.types.size))) = true := by kernel_rfl
theorem g20 : (Rows.regexNoneRow.ifacesOut == Try.f3.resultTypes.toList.any (Try.pinned.checked.prog.ifacesRec ·)) = true := by kernel_rfl
theorem g21 : (Rows.regexNoneRow.loopsOut == Try.f3.resultTypes.toList.any (Try.pinned.checked.prog.loopsFrom ·)) = true := by kernel_rfl
theorem g26 : (Rows.regexNoneRow.lifted == Try.pinned.checked.prog.liftsFinal) = true := by kernel_rfl
theorem g27 : (Try.pinned.checked.prog.make == some Rows.regexNoneRow.make) = true := by kernel_rfl
theorem g28 : (Rows.regexNoneRow.kinds == (if Rows.regexNoneRow.domain.isEmpty then [] else Try.f3.params.toList.map fun t => match Try.pinned.checked.prog.underlying t with | some (.int k) => some k | _ => none)) = true := by kernel_rfl
theorem g29 : (Rows.regexNoneRow.pinned == Rows.regexNoneRow.pinnedBy) = true := by kernel_rfl
theorem g30 : (Rows.regexNoneRow.veiled == (Try.f3.params.toList ++ ((OpenSpec.ofChange Rows.regexNoneSpec)).bare.plain.varTypes Try.pinned.checked.prog ++ Try.f3.resultTypes.toList).any (Try.pinned.checked.prog.veiledRec ·)) = true := by kernel_rfl
theorem g31 : (Rows.regexNoneRow.veiledFits Try.pinned.checked.prog Try.f3.params.toList (Try.f3.params.toList ++ ((OpenSpec.ofChange Rows.regexNoneSpec)).bare.plain.varTypes Try.pinned.checked.prog ++ Try.f3.resultTypes.toList)) = true := by kernel_rfl
theorem named_at : Try.prog.funcNamed "tinsel/tinsellaw13.RegexNone" = some 3 := by kernel_rfl
end Go.Proofs.Ytfldgookpokjeaa.regexNone

