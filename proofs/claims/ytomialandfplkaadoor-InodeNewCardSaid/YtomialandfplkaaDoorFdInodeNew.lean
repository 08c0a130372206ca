/- The law inodeNew: closed facts of its row. -/
import Derived.Test.YtomialandfplkaaDoorCards
import Derived.Test.YtomialandfplkaaDoorTie
import Derived.ProofKit
import Derived.OpenShut
namespace Go.Proofs.YtomialandfplkaaDoor.inodeNew
open Go.ChangeShapes Go.WideShapes Go.ChangeAt Go.RowKit
set_option maxRecDepth 100000
theorem g13 : (Rows.inodeNewRow.maps == (Tryd.f10.params.toList ++ ((OpenSpec.ofChange Rows.inodeNewSpec)).bare.plain.varTypes Tryd.pinned.checked.prog).any (Tryd.pinned.checked.prog.mapsRec ·)) = true := by kernel_rfl
theorem g14 : (Rows.inodeNewRow.ifaces == (Tryd.f10.params.toList ++ ((OpenSpec.ofChange Rows.inodeNewSpec)).bare.plain.varTypes Tryd.pinned.checked.prog).any (Tryd.pinned.checked.prog.ifacesRec ·)) = true := by kernel_rfl
theorem g15 : (Rows.inodeNewRow.mapsOut == Tryd.pinned.checked.prog.mapsAmong Tryd.f10.resultTypes.toList) = true := by kernel_rfl
theorem g16 : (Rows.inodeNewRow.loops == (Tryd.f10.params.toList ++ ((OpenSpec.ofChange Rows.inodeNewSpec)).bare.plain.varTypes Tryd.pinned.checked.prog).any (Tryd.pinned.checked.prog.loopsFrom ·)) = true := by kernel_rfl
theorem g17 : (Rows.inodeNewRow.wideKeys == (Tryd.f10.params.toList ++ ((OpenSpec.ofChange Rows.inodeNewSpec)).bare.plain.varTypes Tryd.pinned.checked.prog ++ Tryd.f10.resultTypes.toList).any (Tryd.pinned.checked.prog.wideKeysFrom ·)) = true := by kernel_rfl
theorem g18 : (((OpenSpec.ofChange Rows.inodeNewSpec)).bare.vars.all (Tryd.pinned.checked.prog.varReadable ·)) = true := by kernel_rfl
theorem g19 : (Tryd.f10.resultTypes.all (fun t => Tryd.pinned.checked.prog.readableRec t && decide (t < Tryd.pinned.checked.prog.types.size))) = true := by kernel_rfl
theorem g20 : (Rows.inodeNewRow.ifacesOut == Tryd.f10.resultTypes.toList.any (Tryd.pinned.checked.prog.ifacesRec ·)) = true := by kernel_rfl
theorem g21 : (Rows.inodeNewRow.loopsOut == Tryd.f10.resultTypes.toList.any (Tryd.pinned.checked.prog.loopsFrom ·)) = true := by kernel_rfl
theorem g26 : (Rows.inodeNewRow.lifted == Tryd.pinned.checked.prog.liftsFinal) = true := by kernel_rfl
theorem g27 : (Tryd.pinned.checked.prog.make == some Rows.inodeNewRow.make) = true := by kernel_rfl
theorem g28 : (Rows.inodeNewRow.kinds == (if Rows.inodeNewRow.domain.isEmpty then [] else Tryd.f10.params.toList.map fun t => match Tryd.pinned.checked.prog.underlying t with | some (.int k) => some k | _ => none)) = true := by kernel_rfl
theorem g29 : (Rows.inodeNewRow.pinned == Rows.inodeNewRow.pinnedBy) = true := by kernel_rfl
theorem g30 : (Rows.inodeNewRow.veiled == (Tryd.f10.params.toList ++ ((OpenSpec.ofChange Rows.inodeNewSpec)).bare.plain.varTypes Tryd.pinned.checked.prog ++ Tryd.f10.resultTypes.toList).any (Tryd.pinned.checked.prog.veiledRec ·)) = true := by kernel_rfl
theorem g31 : (Rows.inodeNewRow.veiledFits Tryd.pinned.checked.prog Tryd.f10.params.toList (Tryd.f10.params.toList ++ ((OpenSpec.ofChange Rows.inodeNewSpec)).bare.plain.varTypes Tryd.pinned.checked.prog ++ Tryd.f10.resultTypes.toList)) = true := by kernel_rfl
theorem named_at : Tryd.prog.funcNamed "tinsel/tinsellaw02.InodeNew" = some 10 := by kernel_rfl
end Go.Proofs.YtomialandfplkaaDoor.inodeNew

