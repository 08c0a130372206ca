/- The law descNone: closed facts of its row. -/
import Derived.Test.YtoglpmfmnknlaaaGreatDoorCards
import Derived.Test.YtoglpmfmnknlaaaGreatDoorTie
import Derived.ProofKit
import Derived.OpenShut
namespace Go.Proofs.YtoglpmfmnknlaaaGreatDoor.descNone
open Go.ChangeShapes Go.WideShapes Go.ChangeAt Go.RowKit
set_option maxRecDepth 100000
theorem g13 : (Rows.descNoneRow.maps == (Tryz.f7.params.toList ++ ((OpenSpec.ofChange Rows.descNoneSpec)).bare.plain.varTypes Tryz.pinned.checked.prog).any (Tryz.pinned.checked.prog.mapsRec ·)) = true := by kernel_rfl
theorem g14 : (Rows.descNoneRow.ifaces == (Tryz.f7.params.toList ++ ((OpenSpec.ofChange Rows.descNoneSpec)).bare.plain.varTypes Tryz.pinned.checked.prog).any (Tryz.pinned.checked.prog.ifacesRec ·)) = true := by kernel_rfl
theorem g15 : (Rows.descNoneRow.mapsOut == Tryz.pinned.checked.prog.mapsAmong Tryz.f7.resultTypes.toList) = true := by kernel_rfl
theorem g16 : (Rows.descNoneRow.loops == (Tryz.f7.params.toList ++ ((OpenSpec.ofChange Rows.descNoneSpec)).bare.plain.varTypes Tryz.pinned.checked.prog).any (Tryz.pinned.checked.prog.loopsFrom ·)) = true := by kernel_rfl
theorem g17 : (Rows.descNoneRow.wideKeys == (Tryz.f7.params.toList ++ ((OpenSpec.ofChange Rows.descNoneSpec)).bare.plain.varTypes Tryz.pinned.checked.prog ++ Tryz.f7.resultTypes.toList).any (Tryz.pinned.checked.prog.wideKeysFrom ·)) = true := by kernel_rfl
theorem g18 : (((OpenSpec.ofChange Rows.descNoneSpec)).bare.vars.all (Tryz.pinned.checked.prog.varReadable ·)) = true := by kernel_rfl
theorem g19 : (Tryz.f7.resultTypes.all (fun t => Tryz.pinned.checked.prog.readableRec t && decide (t < Tryz.pinned.checked.prog.types.size))) = true := by kernel_rfl
theorem g20 : (Rows.descNoneRow.ifacesOut == Tryz.f7.resultTypes.toList.any (Tryz.pinned.checked.prog.ifacesRec ·)) = true := by kernel_rfl
theorem g21 : (Rows.descNoneRow.loopsOut == Tryz.f7.resultTypes.toList.any (Tryz.pinned.checked.prog.loopsFrom ·)) = true := by kernel_rfl
theorem g26 : (Rows.descNoneRow.lifted == Tryz.pinned.checked.prog.liftsFinal) = true := by kernel_rfl
theorem g27 : (Tryz.pinned.checked.prog.make == some Rows.descNoneRow.make) = true := by kernel_rfl
theorem g28 : (Rows.descNoneRow.kinds == (if Rows.descNoneRow.domain.isEmpty then [] else Tryz.f7.params.toList.map fun t => match Tryz.pinned.checked.prog.underlying t with | some (.int k) => some k | _ => none)) = true := by kernel_rfl
theorem g29 : (Rows.descNoneRow.pinned == Rows.descNoneRow.pinnedBy) = true := by kernel_rfl
theorem g30 : (Rows.descNoneRow.veiled == (Tryz.f7.params.toList ++ ((OpenSpec.ofChange Rows.descNoneSpec)).bare.plain.varTypes Tryz.pinned.checked.prog ++ Tryz.f7.resultTypes.toList).any (Tryz.pinned.checked.prog.veiledRec ·)) = true := by kernel_rfl
theorem g31 : (Rows.descNoneRow.veiledFits Tryz.pinned.checked.prog Tryz.f7.params.toList (Tryz.f7.params.toList ++ ((OpenSpec.ofChange Rows.descNoneSpec)).bare.plain.varTypes Tryz.pinned.checked.prog ++ Tryz.f7.resultTypes.toList)) = true := by kernel_rfl
theorem named_at : Tryz.prog.funcNamed "tinsel/tinsellaw07.DescNone" = some 7 := by kernel_rfl
end Go.Proofs.YtoglpmfmnknlaaaGreatDoor.descNone

