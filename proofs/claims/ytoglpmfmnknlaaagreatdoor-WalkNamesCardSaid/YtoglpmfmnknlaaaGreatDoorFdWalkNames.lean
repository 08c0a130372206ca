/- The law walkNames: closed facts of its row. -/
import Derived.Test.YtoglpmfmnknlaaaGreatDoorCards
import Derived.Test.YtoglpmfmnknlaaaGreatDoorTie
import Derived.ProofKit
import Derived.OpenShut
namespace Go.Proofs.YtoglpmfmnknlaaaGreatDoor.walkNames
open Go.ChangeShapes Go.WideShapes Go.ChangeAt Go.RowKit
set_option maxRecDepth 100000
theorem g13 : (Rows.walkNamesRow.maps == (Tryz.f9.params.toList ++ ((OpenSpec.ofChange Rows.walkNamesSpec)).bare.plain.varTypes Tryz.pinned.checked.prog).any (Tryz.pinned.checked.prog.mapsRec ·)) = true := by kernel_rfl
theorem g14 : (Rows.walkNamesRow.ifaces == (Tryz.f9.params.toList ++ ((OpenSpec.ofChange Rows.walkNamesSpec)).bare.plain.varTypes Tryz.pinned.checked.prog).any (Tryz.pinned.checked.prog.ifacesRec ·)) = true := by kernel_rfl
theorem g15 : (Rows.walkNamesRow.mapsOut == Tryz.pinned.checked.prog.mapsAmong Tryz.f9.resultTypes.toList) = true := by kernel_rfl
theorem g16 : (Rows.walkNamesRow.loops == (Tryz.f9.params.toList ++ ((OpenSpec.ofChange Rows.walkNamesSpec)).bare.plain.varTypes Tryz.pinned.checked.prog).any (Tryz.pinned.checked.prog.loopsFrom ·)) = true := by kernel_rfl
theorem g17 : (Rows.walkNamesRow.wideKeys == (Tryz.f9.params.toList ++ ((OpenSpec.ofChange Rows.walkNamesSpec)).bare.plain.varTypes Tryz.pinned.checked.prog ++ Tryz.f9.resultTypes.toList).any (Tryz.pinned.checked.prog.wideKeysFrom ·)) = true := by kernel_rfl
theorem g18 : (((OpenSpec.ofChange Rows.walkNamesSpec)).bare.vars.all (Tryz.pinned.checked.prog.varReadable ·)) = true := by kernel_rfl
theorem g19 : (Tryz.f9.resultTypes.all (fun t => Tryz.pinned.checked.prog.readableRec t && decide (t < Tryz.pinned.checked.prog.types.size))) = true := by kernel_rfl
theorem g20 : (Rows.walkNamesRow.ifacesOut == Tryz.f9.resultTypes.toList.any (Tryz.pinned.checked.prog.ifacesRec ·)) = true := by kernel_rfl
theorem g21 : (Rows.walkNamesRow.loopsOut == Tryz.f9.resultTypes.toList.any (Tryz.pinned.checked.prog.loopsFrom ·)) = true := by kernel_rfl
theorem g26 : (Rows.walkNamesRow.lifted == Tryz.pinned.checked.prog.liftsFinal) = true := by kernel_rfl
theorem g27 : (Tryz.pinned.checked.prog.make == some Rows.walkNamesRow.make) = true := by kernel_rfl
theorem g28 : (Rows.walkNamesRow.kinds == (if Rows.walkNamesRow.domain.isEmpty then [] else Tryz.f9.params.toList.map fun t => match Tryz.pinned.checked.prog.underlying t with | some (.int k) => some k | _ => none)) = true := by kernel_rfl
theorem g29 : (Rows.walkNamesRow.pinned == Rows.walkNamesRow.pinnedBy) = true := by kernel_rfl
theorem g30 : (Rows.walkNamesRow.veiled == (Tryz.f9.params.toList ++ ((OpenSpec.ofChange Rows.walkNamesSpec)).bare.plain.varTypes Tryz.pinned.checked.prog ++ Tryz.f9.resultTypes.toList).any (Tryz.pinned.checked.prog.veiledRec ·)) = true := by kernel_rfl
theorem g31 : (Rows.walkNamesRow.veiledFits Tryz.pinned.checked.prog Tryz.f9.params.toList (Tryz.f9.params.toList ++ ((OpenSpec.ofChange Rows.walkNamesSpec)).bare.plain.varTypes Tryz.pinned.checked.prog ++ Tryz.f9.resultTypes.toList)) = true := by kernel_rfl
theorem named_at : Tryz.prog.funcNamed "tinsel/tinsellaw14.WalkNames" = some 9 := by kernel_rfl
end Go.Proofs.YtoglpmfmnknlaaaGreatDoor.walkNames

