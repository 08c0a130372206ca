/- The law inodeCopies: closed facts of its row. -/
import Derived.Test.YtomialandfplkaaDoorCards
import Derived.Test.YtomialandfplkaaDoorTie
import Derived.ProofKit
import Derived.OpenShut
namespace Go.Proofs.YtomialandfplkaaDoor.inodeCopies
open Go.ChangeShapes Go.WideShapes Go.ChangeAt Go.RowKit
set_option maxRecDepth 100000
theorem g13 : (Rows.inodeCopiesRow.maps == (Tryd.f13.params.toList ++ ((OpenSpec.ofChange Rows.inodeCopiesSpec)).bare.plain.varTypes Tryd.pinned.checked.prog).any (Tryd.pinned.checked.prog.mapsRec ·)) = true := by kernel_rfl
theorem g14 : (Rows.inodeCopiesRow.ifaces == (Tryd.f13.params.toList ++ ((OpenSpec.ofChange Rows.inodeCopiesSpec)).bare.plain.varTypes Tryd.pinned.checked.prog).any (Tryd.pinned.checked.prog.ifacesRec ·)) = true := by kernel_rfl
theorem g15 : (Rows.inodeCopiesRow.mapsOut == Tryd.pinned.checked.prog.mapsAmong Tryd.f13.resultTypes.toList) = true := by kernel_rfl
theorem g16 : (Rows.inodeCopiesRow.loops == (Tryd.f13.params.toList ++ ((OpenSpec.ofChange Rows.inodeCopiesSpec)).bare.plain.varTypes Tryd.pinned.checked.prog).any (Tryd.pinned.checked.prog.loopsFrom ·)) = true := by kernel_rfl
theorem g17 : (Rows.inodeCopiesRow.wideKeys == (Tryd.f13.params.toList ++ ((OpenSpec.ofChange Rows.inodeCopiesSpec)).bare.plain.varTypes Tryd.pinned.checked.prog ++ Tryd.f13.resultTypes.toList).any (Tryd.pinned.checked.prog.wideKeysFrom ·)) = true := by kernel_rfl
theorem g18 : (((OpenSpec.ofChange Rows.inodeCopiesSpec)).bare.vars.all (Tryd.pinned.checked.prog.varReadable ·)) = true := by kernel_rfl
theorem g19 : (Tryd.f13.resultTypes.all (fun t => Tryd.pinned.checked.prog.readableRec t && decide (t < Tryd.pinned.checked.prog.types.size))) = true := by kernel_rfl
theorem g20 : (Rows.inodeCopiesRow.ifacesOut == Tryd.f13.resultTypes.toList.any (Tryd.pinned.checked.prog.ifacesRec ·)) = true := by kernel_rfl
theorem g21 : (Rows.inodeCopiesRow.loopsOut == Tryd.f13.resultTypes.toList.any (Tryd.pinned.checked.prog.loopsFrom ·)) = true := by kernel_rfl
theorem g26 : (Rows.inodeCopiesRow.lifted == Tryd.pinned.checked.prog.liftsFinal) = true := by kernel_rfl
theorem g27 : (Tryd.pinned.checked.prog.make == some Rows.inodeCopiesRow.make) = true := by kernel_rfl
theorem g28 : (Rows.inodeCopiesRow.kinds == (if Rows.inodeCopiesRow.domain.isEmpty then [] else Tryd.f13.params.toList.map fun t => match Tryd.pinned.checked.prog.underlying t with | some (.int k) => some k | _ => none)) = true := by kernel_rfl
theorem g29 : (Rows.inodeCopiesRow.pinned == Rows.inodeCopiesRow.pinnedBy) = true := by kernel_rfl
theorem g30 : (Rows.inodeCopiesRow.veiled == (Tryd.f13.params.toList ++ ((OpenSpec.ofChange Rows.inodeCopiesSpec)).bare.plain.varTypes Tryd.pinned.checked.prog ++ Tryd.f13.resultTypes.toList).any (Tryd.pinned.checked.prog.veiledRec ·)) = true := by kernel_rfl
theorem g31 : (Rows.inodeCopiesRow.veiledFits Tryd.pinned.checked.prog Tryd.f13.params.toList (Tryd.f13.params.toList ++ ((OpenSpec.ofChange Rows.inodeCopiesSpec)).bare.plain.varTypes Tryd.pinned.checked.prog ++ Tryd.f13.resultTypes.toList)) = true := by kernel_rfl
theorem named_at : Tryd.prog.funcNamed "tinsel/tinsellaw02.InodeCopies" = some 13 := by kernel_rfl
end Go.Proofs.YtomialandfplkaaDoor.inodeCopies

