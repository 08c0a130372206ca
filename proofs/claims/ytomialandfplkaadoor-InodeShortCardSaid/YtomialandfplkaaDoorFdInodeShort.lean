/- The law inodeShort: closed facts of its row. -/
import Derived.Test.YtomialandfplkaaDoorCards
import Derived.Test.YtomialandfplkaaDoorTie
import Derived.ProofKit
import Derived.OpenShut
namespace Go.Proofs.YtomialandfplkaaDoor.inodeShort
open Go.ChangeShapes Go.WideShapes Go.ChangeAt Go.RowKit
set_option maxRecDepth 100000
theorem g13 : (Rows.inodeShortRow.maps == (Tryd.f8.params.toList ++ ((OpenSpec.ofChange Rows.inodeShortSpec)).bare.plain.varTypes Tryd.pinned.checked.prog).any (Tryd.pinned.checked.prog.mapsRec ·)) = true := by kernel_rfl
theorem g14 : (Rows.inodeShortRow.ifaces == (Tryd.f8.params.toList ++ ((OpenSpec.ofChange Rows.inodeShortSpec)).bare.plain.varTypes Tryd.pinned.checked.prog).any (Tryd.pinned.checked.prog.ifacesRec ·)) = true := by kernel_rfl
theorem g15 : (Rows.inodeShortRow.mapsOut == Tryd.pinned.checked.prog.mapsAmong Tryd.f8.resultTypes.toList) = true := by kernel_rfl
theorem g16 : (Rows.inodeShortRow.loops == (Tryd.f8.params.toList ++ ((OpenSpec.ofChange Rows.inodeShortSpec)).bare.plain.varTypes Tryd.pinned.checked.prog).any (Tryd.pinned.checked.prog.loopsFrom ·)) = true := by kernel_rfl
theorem g17 : (Rows.inodeShortRow.wideKeys == (Tryd.f8.params.toList ++ ((OpenSpec.ofChange Rows.inodeShortSpec)).bare.plain.varTypes Tryd.pinned.checked.prog ++ Tryd.f8.resultTypes.toList).any (Tryd.pinned.checked.prog.wideKeysFrom ·)) = true := by kernel_rfl
theorem g18 : (((OpenSpec.ofChange Rows.inodeShortSpec)).bare.vars.all (Tryd.pinned.checked.prog.varReadable ·)) = true := by kernel_rfl
theorem g19 : (Tryd.f8.resultTypes.all (fun t => Tryd.pinned.checked.prog.readableRec t && decide (t < Tryd.pinned.checked.prog.types.size))) = true := by kernel_rfl
theorem g20 : (Rows.inodeShortRow.ifacesOut == Tryd.f8.resultTypes.toList.any (Tryd.pinned.checked.prog.ifacesRec ·)) = true := by kernel_rfl
theorem g21 : (Rows.inodeShortRow.loopsOut == Tryd.f8.resultTypes.toList.any (Tryd.pinned.checked.prog.loopsFrom ·)) = true := by kernel_rfl
theorem g26 : (Rows.inodeShortRow.lifted == Tryd.pinned.checked.prog.liftsFinal) = true := by kernel_rfl
theorem g27 : (Tryd.pinned.checked.prog.make == some Rows.inodeShortRow.make) = true := by kernel_rfl
theorem g28 : (Rows.inodeShortRow.kinds == (if Rows.inodeShortRow.domain.isEmpty then [] else Tryd.f8.params.toList.map fun t => match Tryd.pinned.checked.prog.underlying t with | some (.int k) => some k | _ => none)) = true := by kernel_rfl
theorem g29 : (Rows.inodeShortRow.pinned == Rows.inodeShortRow.pinnedBy) = true := by kernel_rfl
theorem g30 : (Rows.inodeShortRow.veiled == (Tryd.f8.params.toList ++ ((OpenSpec.ofChange Rows.inodeShortSpec)).bare.plain.varTypes Tryd.pinned.checked.prog ++ Tryd.f8.resultTypes.toList).any (Tryd.pinned.checked.prog.veiledRec ·)) = true := by kernel_rfl
theorem g31 : (Rows.inodeShortRow.veiledFits Tryd.pinned.checked.prog Tryd.f8.params.toList (Tryd.f8.params.toList ++ ((OpenSpec.ofChange Rows.inodeShortSpec)).bare.plain.varTypes Tryd.pinned.checked.prog ++ Tryd.f8.resultTypes.toList)) = true := by kernel_rfl
theorem named_at : Tryd.prog.funcNamed "tinsel/tinsellaw02.InodeShort" = some 8 := by kernel_rfl
end Go.Proofs.YtomialandfplkaaDoor.inodeShort

