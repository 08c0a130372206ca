/- The law inodeRuns: closed facts of its row. -/
import Derived.Test.YtomialandfplkaaDoorCards
import Derived.Test.YtomialandfplkaaDoorTie
import Derived.ProofKit
import Derived.OpenShut
namespace Go.Proofs.YtomialandfplkaaDoor.inodeRuns
open Go.ChangeShapes Go.WideShapes Go.ChangeAt Go.RowKit
set_option maxRecDepth 100000
theorem g13 : (Rows.inodeRunsRow.maps == (Tryd.f12.params.toList ++ ((OpenSpec.ofChange Rows.inodeRunsSpec)).bare.plain.varTypes Tryd.pinned.checked.prog).any (Tryd.pinned.checked.prog.mapsRec ·)) = true := by kernel_rfl
theorem g14 : (Rows.inodeRunsRow.ifaces == (Tryd.f12.params.toList ++ ((OpenSpec.ofChange Rows.inodeRunsSpec)).bare.plain.varTypes Tryd.pinned.checked.prog).any (Tryd.pinned.checked.prog.ifacesRec ·)) = true := by kernel_rfl
theorem g15 : (Rows.inodeRunsRow.mapsOut == Tryd.pinned.checked.prog.mapsAmong Tryd.f12.resultTypes.toList) = true := by kernel_rfl
theorem g16 : (Rows.inodeRunsRow.loops == (Tryd.f12.params.toList ++ ((OpenSpec.ofChange Rows.inodeRunsSpec)).bare.plain.varTypes Tryd.pinned.checked.prog).any (Tryd.pinned.checked.prog.loopsFrom ·)) = true := by kernel_rfl
theorem g17 : (Rows.inodeRunsRow.wideKeys == (Tryd.f12.params.toList ++ ((OpenSpec.ofChange Rows.inodeRunsSpec)).bare.plain.varTypes Tryd.pinned.checked.prog ++ Tryd.f12.resultTypes.toList).any (Tryd.pinned.checked.prog.wideKeysFrom ·)) = true := by kernel_rfl
theorem g18 : (((OpenSpec.ofChange Rows.inodeRunsSpec)).bare.vars.all (Tryd.pinned.checked.prog.varReadable ·)) = true := by kernel_rfl
theorem g19 : (Tryd.f12.resultTypes.all (fun t => Tryd.pinned.checked.prog.readableRec t && decide (t < Tryd.pinned.checked.prog.types.size))) = true := by kernel_rfl
theorem g20 : (Rows.inodeRunsRow.ifacesOut == Tryd.f12.resultTypes.toList.any (Tryd.pinned.checked.prog.ifacesRec ·)) = true := by kernel_rfl
theorem g21 : (Rows.inodeRunsRow.loopsOut == Tryd.f12.resultTypes.toList.any (Tryd.pinned.checked.prog.loopsFrom ·)) = true := by kernel_rfl
theorem g26 : (Rows.inodeRunsRow.lifted == Tryd.pinned.checked.prog.liftsFinal) = true := by kernel_rfl
theorem g27 : (Tryd.pinned.checked.prog.make == some Rows.inodeRunsRow.make) = true := by kernel_rfl
theorem g28 : (Rows.inodeRunsRow.kinds == (if Rows.inodeRunsRow.domain.isEmpty then [] else Tryd.f12.params.toList.map fun t => match Tryd.pinned.checked.prog.underlying t with | some (.int k) => some k | _ => none)) = true := by kernel_rfl
theorem g29 : (Rows.inodeRunsRow.pinned == Rows.inodeRunsRow.pinnedBy) = true := by kernel_rfl
theorem g30 : (Rows.inodeRunsRow.veiled == (Tryd.f12.params.toList ++ ((OpenSpec.ofChange Rows.inodeRunsSpec)).bare.plain.varTypes Tryd.pinned.checked.prog ++ Tryd.f12.resultTypes.toList).any (Tryd.pinned.checked.prog.veiledRec ·)) = true := by kernel_rfl
theorem g31 : (Rows.inodeRunsRow.veiledFits Tryd.pinned.checked.prog Tryd.f12.params.toList (Tryd.f12.params.toList ++ ((OpenSpec.ofChange Rows.inodeRunsSpec)).bare.plain.varTypes Tryd.pinned.checked.prog ++ Tryd.f12.resultTypes.toList)) = true := by kernel_rfl
theorem named_at : Tryd.prog.funcNamed "tinsel/tinsellaw02.InodeRuns" = some 12 := by kernel_rfl
end Go.Proofs.YtomialandfplkaaDoor.inodeRuns

