/- The law inodeBytes: closed facts of its row. -/
import Derived.Test.YtomialandfplkaaDoorCards
import Derived.Test.YtomialandfplkaaDoorTie
import Derived.ProofKit
import Derived.OpenShut
namespace Go.Proofs.YtomialandfplkaaDoor.inodeBytes
open Go.ChangeShapes Go.WideShapes Go.ChangeAt Go.RowKit
set_option maxRecDepth 100000
theorem g13 : (Rows.inodeBytesRow.maps == (Tryd.f9.params.toList ++ ((OpenSpec.ofChange Rows.inodeBytesSpec)).bare.plain.varTypes Tryd.pinned.checked.prog).any (Tryd.pinned.checked.prog.mapsRec ·)) = true := by kernel_rfl
theorem g14 : (Rows.inodeBytesRow.ifaces == (Tryd.f9.params.toList ++ ((OpenSpec.ofChange Rows.inodeBytesSpec)).bare.plain.varTypes Tryd.pinned.checked.prog).any (Tryd.pinned.checked.prog.ifacesRec ·)) = true := by kernel_rfl
theorem g15 : (Rows.inodeBytesRow.mapsOut == Tryd.pinned.checked.prog.mapsAmong Tryd.f9.resultTypes.toList) = true := by kernel_rfl
theorem g16 : (Rows.inodeBytesRow.loops == (Tryd.f9.params.toList ++ ((OpenSpec.ofChange Rows.inodeBytesSpec)).bare.plain.varTypes Tryd.pinned.checked.prog).any (Tryd.pinned.checked.prog.loopsFrom ·)) = true := by kernel_rfl
theorem g17 : (Rows.inodeBytesRow.wideKeys == (Tryd.f9.params.toList ++ ((OpenSpec.ofChange Rows.inodeBytesSpec)).bare.plain.varTypes Tryd.pinned.checked.prog ++ Tryd.f9.resultTypes.toList).any (Tryd.pinned.checked.prog.wideKeysFrom ·)) = true := by kernel_rfl
theorem g18 : (((OpenSpec.ofChange Rows.inodeBytesSpec)).bare.vars.all (Tryd.pinned.checked.prog.varReadable ·)) = true := by kernel_rfl
theorem g19 : (Tryd.f9.resultTypes.all (fun t => Tryd.pinned.checked.prog.readableRec t && decide (t < Tryd.pinned.checked.prog.types.size))) = true := by kernel_rfl
theorem g20 : (Rows.inodeBytesRow.ifacesOut == Tryd.f9.resultTypes.toList.any (Tryd.pinned.checked.prog.ifacesRec ·)) = true := by kernel_rfl
theorem g21 : (Rows.inodeBytesRow.loopsOut == Tryd.f9.resultTypes.toList.any (Tryd.pinned.checked.prog.loopsFrom ·)) = true := by kernel_rfl
theorem g26 : (Rows.inodeBytesRow.lifted == Tryd.pinned.checked.prog.liftsFinal) = true := by kernel_rfl
theorem g27 : (Tryd.pinned.checked.prog.make == some Rows.inodeBytesRow.make) = true := by kernel_rfl
theorem g28 : (Rows.inodeBytesRow.kinds == (if Rows.inodeBytesRow.domain.isEmpty then [] else Tryd.f9.params.toList.map fun t => match Tryd.pinned.checked.prog.underlying t with | some (.int k) => some k | _ => none)) = true := by kernel_rfl
theorem g29 : (Rows.inodeBytesRow.pinned == Rows.inodeBytesRow.pinnedBy) = true := by kernel_rfl
theorem g30 : (Rows.inodeBytesRow.veiled == (Tryd.f9.params.toList ++ ((OpenSpec.ofChange Rows.inodeBytesSpec)).bare.plain.varTypes Tryd.pinned.checked.prog ++ Tryd.f9.resultTypes.toList).any (Tryd.pinned.checked.prog.veiledRec ·)) = true := by kernel_rfl
theorem g31 : (Rows.inodeBytesRow.veiledFits Tryd.pinned.checked.prog Tryd.f9.params.toList (Tryd.f9.params.toList ++ ((OpenSpec.ofChange Rows.inodeBytesSpec)).bare.plain.varTypes Tryd.pinned.checked.prog ++ Tryd.f9.resultTypes.toList)) = true := by kernel_rfl
theorem named_at : Tryd.prog.funcNamed "tinsel/tinsellaw02.InodeBytes" = some 9 := by kernel_rfl
end Go.Proofs.YtomialandfplkaaDoor.inodeBytes

