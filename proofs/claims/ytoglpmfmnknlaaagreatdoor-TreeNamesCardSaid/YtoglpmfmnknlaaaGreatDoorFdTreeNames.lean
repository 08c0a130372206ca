/- The law treeNames: closed facts of its row. -/
import Derived.Test.YtoglpmfmnknlaaaGreatDoorCards
import Derived.Test.YtoglpmfmnknlaaaGreatDoorTie
import Derived.ProofKit
import Derived.OpenShut
namespace Go.Proofs.YtoglpmfmnknlaaaGreatDoor.treeNames
open Go.ChangeShapes Go.WideShapes Go.ChangeAt Go.RowKit
set_option maxRecDepth 100000
theorem g13 : (Rows.treeNamesRow.maps == (Tryz.f3.params.toList ++ ((OpenSpec.ofChange Rows.treeNamesSpec)).bare.plain.varTypes Tryz.pinned.checked.prog).any (Tryz.pinned.checked.prog.mapsRec ·)) = true := by kernel_rfl
theorem g14 : (Rows.treeNamesRow.ifaces == (Tryz.f3.params.toList ++ ((OpenSpec.ofChange Rows.treeNamesSpec)).bare.plain.varTypes Tryz.pinned.checked.prog).any (Tryz.pinned.checked.prog.ifacesRec ·)) = true := by kernel_rfl
theorem g15 : (Rows.treeNamesRow.mapsOut == Tryz.pinned.checked.prog.mapsAmong Tryz.f3.resultTypes.toList) = true := by kernel_rfl
theorem g16 : (Rows.treeNamesRow.loops == (Tryz.f3.params.toList ++ ((OpenSpec.ofChange Rows.treeNamesSpec)).bare.plain.varTypes Tryz.pinned.checked.prog).any (Tryz.pinned.checked.prog.loopsFrom ·)) = true := by kernel_rfl
theorem g17 : (Rows.treeNamesRow.wideKeys == (Tryz.f3.params.toList ++ ((OpenSpec.ofChange Rows.treeNamesSpec)).bare.plain.varTypes Tryz.pinned.checked.prog ++ Tryz.f3.resultTypes.toList).any (Tryz.pinned.checked.prog.wideKeysFrom ·)) = true := by kernel_rfl
theorem g18 : (((OpenSpec.ofChange Rows.treeNamesSpec)).bare.vars.all (Tryz.pinned.checked.prog.varReadable ·)) = true := by kernel_rfl
theorem g19 : (Tryz.f3.resultTypes.all (fun t => Tryz.pinned.checked.prog.readableRec t && decide (t < Tryz.pinned.checked.prog.types.size))) = true := by kernel_rfl
theorem g20 : (Rows.treeNamesRow.ifacesOut == Tryz.f3.resultTypes.toList.any (Tryz.pinned.checked.prog.ifacesRec ·)) = true := by kernel_rfl
theorem g21 : (Rows.treeNamesRow.loopsOut == Tryz.f3.resultTypes.toList.any (Tryz.pinned.checked.prog.loopsFrom ·)) = true := by kernel_rfl
theorem g26 : (Rows.treeNamesRow.lifted == Tryz.pinned.checked.prog.liftsFinal) = true := by kernel_rfl
theorem g27 : (Tryz.pinned.checked.prog.make == some Rows.treeNamesRow.make) = true := by kernel_rfl
theorem g28 : (Rows.treeNamesRow.kinds == (if Rows.treeNamesRow.domain.isEmpty then [] else Tryz.f3.params.toList.map fun t => match Tryz.pinned.checked.prog.underlying t with | some (.int k) => some k | _ => none)) = true := by kernel_rfl
theorem g29 : (Rows.treeNamesRow.pinned == Rows.treeNamesRow.pinnedBy) = true := by kernel_rfl
theorem g30 : (Rows.treeNamesRow.veiled == (Tryz.f3.params.toList ++ ((OpenSpec.ofChange Rows.treeNamesSpec)).bare.plain.varTypes Tryz.pinned.checked.prog ++ Tryz.f3.resultTypes.toList).any (Tryz.pinned.checked.prog.veiledRec ·)) = true := by kernel_rfl
theorem g31 : (Rows.treeNamesRow.veiledFits Tryz.pinned.checked.prog Tryz.f3.params.toList (Tryz.f3.params.toList ++ ((OpenSpec.ofChange Rows.treeNamesSpec)).bare.plain.varTypes Tryz.pinned.checked.prog ++ Tryz.f3.resultTypes.toList)) = true := by kernel_rfl
theorem named_at : Tryz.prog.funcNamed "tinsel/tinsellaw06.TreeNames" = some 3 := by kernel_rfl
end Go.Proofs.YtoglpmfmnknlaaaGreatDoor.treeNames

