/- The law faultLegal: closed facts of its row. -/
import Derived.Test.YtgofkccnmmiciaaGreatDoorCards
import Derived.Test.YtgofkccnmmiciaaGreatDoorTie
import Derived.ProofKit
import Derived.OpenShut
namespace Go.Proofs.YtgofkccnmmiciaaGreatDoor.faultLegal
open Go.ChangeShapes Go.WideShapes Go.ChangeAt Go.RowKit
set_option maxRecDepth 100000
theorem g13 : (Rows.faultLegalRow.maps == (Tryz.f3.params.toList ++ ((OpenSpec.ofChange Rows.faultLegalSpec)).bare.plain.varTypes Tryz.pinned.checked.prog).any (Tryz.pinned.checked.prog.mapsRec ·)) = true := by kernel_rfl
theorem g14 : (Rows.faultLegalRow.ifaces == (Tryz.f3.params.toList ++ ((OpenSpec.ofChange Rows.faultLegalSpec)).bare.plain.varTypes Tryz.pinned.checked.prog).any (Tryz.pinned.checked.prog.ifacesRec ·)) = true := by kernel_rfl
theorem g15 : (Rows.faultLegalRow.mapsOut == Tryz.pinned.checked.prog.mapsAmong Tryz.f3.resultTypes.toList) = true := by kernel_rfl
theorem g16 : (Rows.faultLegalRow.loops == (Tryz.f3.params.toList ++ ((OpenSpec.ofChange Rows.faultLegalSpec)).bare.plain.varTypes Tryz.pinned.checked.prog).any (Tryz.pinned.checked.prog.loopsFrom ·)) = true := by kernel_rfl
theorem g17 : (Rows.faultLegalRow.wideKeys == (Tryz.f3.params.toList ++ ((OpenSpec.ofChange Rows.faultLegalSpec)).bare.plain.varTypes Tryz.pinned.checked.prog ++ Tryz.f3.resultTypes.toList).any (Tryz.pinned.checked.prog.wideKeysFrom ·)) = true := by kernel_rfl
theorem g18 : (((OpenSpec.ofChange Rows.faultLegalSpec)).bare.vars.all (Tryz.pinned.checked.prog.varReadable ·)) = true := by kernel_rfl
theorem g19 : (Tryz.f3.resultTypes.all (fun t => Tryz.pinned.checked.prog.readableRec t && decide (t < Tryz.pinned.checked.prog.types.size))) = true := by kernel_rfl
theorem g20 : (Rows.faultLegalRow.ifacesOut == Tryz.f3.resultTypes.toList.any (Tryz.pinned.checked.prog.ifacesRec ·)) = true := by kernel_rfl
theorem g21 : (Rows.faultLegalRow.loopsOut == Tryz.f3.resultTypes.toList.any (Tryz.pinned.checked.prog.loopsFrom ·)) = true := by kernel_rfl
theorem g26 : (Rows.faultLegalRow.lifted == Tryz.pinned.checked.prog.liftsFinal) = true := by kernel_rfl
theorem g27 : (Tryz.pinned.checked.prog.make == some Rows.faultLegalRow.make) = true := by kernel_rfl
theorem g28 : (Rows.faultLegalRow.kinds == (if Rows.faultLegalRow.domain.isEmpty then [] else Tryz.f3.params.toList.map fun t => match Tryz.pinned.checked.prog.underlying t with | some (.int k) => some k | _ => none)) = true := by kernel_rfl
theorem g29 : (Rows.faultLegalRow.pinned == Rows.faultLegalRow.pinnedBy) = true := by kernel_rfl
theorem g30 : (Rows.faultLegalRow.veiled == (Tryz.f3.params.toList ++ ((OpenSpec.ofChange Rows.faultLegalSpec)).bare.plain.varTypes Tryz.pinned.checked.prog ++ Tryz.f3.resultTypes.toList).any (Tryz.pinned.checked.prog.veiledRec ·)) = true := by kernel_rfl
theorem g31 : (Rows.faultLegalRow.veiledFits Tryz.pinned.checked.prog Tryz.f3.params.toList (Tryz.f3.params.toList ++ ((OpenSpec.ofChange Rows.faultLegalSpec)).bare.plain.varTypes Tryz.pinned.checked.prog ++ Tryz.f3.resultTypes.toList)) = true := by kernel_rfl
theorem named_at : Tryz.prog.funcNamed "tinsel/tinsellaw08.FaultLegal" = some 3 := by kernel_rfl
end Go.Proofs.YtgofkccnmmiciaaGreatDoor.faultLegal

