/- The law faultNames: closed facts of its row. -/
import Derived.Test.YtoglpmfmnknlaaaGreatDoorCards
import Derived.Test.YtoglpmfmnknlaaaGreatDoorTie
import Derived.ProofKit
import Derived.OpenShut
namespace Go.Proofs.YtoglpmfmnknlaaaGreatDoor.faultNames
open Go.ChangeShapes Go.WideShapes Go.ChangeAt Go.RowKit
set_option maxRecDepth 100000
theorem g13 : (Rows.faultNamesRow.maps == (Tryz.f4.params.toList ++ ((OpenSpec.ofChange Rows.faultNamesSpec)).bare.plain.varTypes Tryz.pinned.checked.prog).any (Tryz.pinned.checked.prog.mapsRec ·)) = true := by kernel_rfl
theorem g14 : (Rows.faultNamesRow.ifaces == (Tryz.f4.params.toList ++ ((OpenSpec.ofChange Rows.faultNamesSpec)).bare.plain.varTypes Tryz.pinned.checked.prog).any (Tryz.pinned.checked.prog.ifacesRec ·)) = true := by kernel_rfl
theorem g15 : (Rows.faultNamesRow.mapsOut == Tryz.pinned.checked.prog.mapsAmong Tryz.f4.resultTypes.toList) = true := by kernel_rfl
theorem g16 : (Rows.faultNamesRow.loops == (Tryz.f4.params.toList ++ ((OpenSpec.ofChange Rows.faultNamesSpec)).bare.plain.varTypes Tryz.pinned.checked.prog).any (Tryz.pinned.checked.prog.loopsFrom ·)) = true := by kernel_rfl
theorem g17 : (Rows.faultNamesRow.wideKeys == (Tryz.f4.params.toList ++ ((OpenSpec.ofChange Rows.faultNamesSpec)).bare.plain.varTypes Tryz.pinned.checked.prog ++ Tryz.f4.resultTypes.toList).any (Tryz.pinned.checked.prog.wideKeysFrom ·)) = true := by kernel_rfl
theorem g18 : (((OpenSpec.ofChange Rows.faultNamesSpec)).bare.vars.all (Tryz.pinned.checked.prog.varReadable ·)) = true := by kernel_rfl
theorem g19 : (Tryz.f4.resultTypes.all (fun t => Tryz.pinned.checked.prog.readableRec t && decide (t < Tryz.pinned.checked.prog.types.size))) = true := by kernel_rfl
theorem g20 : (Rows.faultNamesRow.ifacesOut == Tryz.f4.resultTypes.toList.any (Tryz.pinned.checked.prog.ifacesRec ·)) = true := by kernel_rfl
theorem g21 : (Rows.faultNamesRow.loopsOut == Tryz.f4.resultTypes.toList.any (Tryz.pinned.checked.prog.loopsFrom ·)) = true := by kernel_rfl
theorem g26 : (Rows.faultNamesRow.lifted == Tryz.pinned.checked.prog.liftsFinal) = true := by kernel_rfl
theorem g27 : (Tryz.pinned.checked.prog.make == some Rows.faultNamesRow.make) = true := by kernel_rfl
theorem g28 : (Rows.faultNamesRow.kinds == (if Rows.faultNamesRow.domain.isEmpty then [] else Tryz.f4.params.toList.map fun t => match Tryz.pinned.checked.prog.underlying t with | some (.int k) => some k | _ => none)) = true := by kernel_rfl
theorem g29 : (Rows.faultNamesRow.pinned == Rows.faultNamesRow.pinnedBy) = true := by kernel_rfl
theorem g30 : (Rows.faultNamesRow.veiled == (Tryz.f4.params.toList ++ ((OpenSpec.ofChange Rows.faultNamesSpec)).bare.plain.varTypes Tryz.pinned.checked.prog ++ Tryz.f4.resultTypes.toList).any (Tryz.pinned.checked.prog.veiledRec ·)) = true := by kernel_rfl
theorem g31 : (Rows.faultNamesRow.veiledFits Tryz.pinned.checked.prog Tryz.f4.params.toList (Tryz.f4.params.toList ++ ((OpenSpec.ofChange Rows.faultNamesSpec)).bare.plain.varTypes Tryz.pinned.checked.prog ++ Tryz.f4.resultTypes.toList)) = true := by kernel_rfl
theorem named_at : Tryz.prog.funcNamed "tinsel/tinsellaw08.FaultNames" = some 4 := by kernel_rfl
end Go.Proofs.YtoglpmfmnknlaaaGreatDoor.faultNames

