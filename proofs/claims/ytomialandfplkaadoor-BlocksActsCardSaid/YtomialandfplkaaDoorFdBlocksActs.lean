/- The law blocksActs: closed facts of its row. -/
import Derived.Test.YtomialandfplkaaDoorCards
import Derived.Test.YtomialandfplkaaDoorTie
import Derived.ProofKit
import Derived.OpenShut
namespace Go.Proofs.YtomialandfplkaaDoor.blocksActs
open Go.ChangeShapes Go.WideShapes Go.ChangeAt Go.RowKit
set_option maxRecDepth 100000
theorem g13 : (Rows.blocksActsRow.maps == (Tryd.f5.params.toList ++ ((OpenSpec.ofChange Rows.blocksActsSpec)).bare.plain.varTypes Tryd.pinned.checked.prog).any (Tryd.pinned.checked.prog.mapsRec ·)) = true := by kernel_rfl
theorem g14 : (Rows.blocksActsRow.ifaces == (Tryd.f5.params.toList ++ ((OpenSpec.ofChange Rows.blocksActsSpec)).bare.plain.varTypes Tryd.pinned.checked.prog).any (Tryd.pinned.checked.prog.ifacesRec ·)) = true := by kernel_rfl
theorem g15 : (Rows.blocksActsRow.mapsOut == Tryd.pinned.checked.prog.mapsAmong Tryd.f5.resultTypes.toList) = true := by kernel_rfl
theorem g16 : (Rows.blocksActsRow.loops == (Tryd.f5.params.toList ++ ((OpenSpec.ofChange Rows.blocksActsSpec)).bare.plain.varTypes Tryd.pinned.checked.prog).any (Tryd.pinned.checked.prog.loopsFrom ·)) = true := by kernel_rfl
theorem g17 : (Rows.blocksActsRow.wideKeys == (Tryd.f5.params.toList ++ ((OpenSpec.ofChange Rows.blocksActsSpec)).bare.plain.varTypes Tryd.pinned.checked.prog ++ Tryd.f5.resultTypes.toList).any (Tryd.pinned.checked.prog.wideKeysFrom ·)) = true := by kernel_rfl
theorem g18 : (((OpenSpec.ofChange Rows.blocksActsSpec)).bare.vars.all (Tryd.pinned.checked.prog.varReadable ·)) = true := by kernel_rfl
theorem g19 : (Tryd.f5.resultTypes.all (fun t => Tryd.pinned.checked.prog.readableRec t && decide (t < Tryd.pinned.checked.prog.types.size))) = true := by kernel_rfl
theorem g20 : (Rows.blocksActsRow.ifacesOut == Tryd.f5.resultTypes.toList.any (Tryd.pinned.checked.prog.ifacesRec ·)) = true := by kernel_rfl
theorem g21 : (Rows.blocksActsRow.loopsOut == Tryd.f5.resultTypes.toList.any (Tryd.pinned.checked.prog.loopsFrom ·)) = true := by kernel_rfl
theorem g26 : (Rows.blocksActsRow.lifted == Tryd.pinned.checked.prog.liftsFinal) = true := by kernel_rfl
theorem g27 : (Tryd.pinned.checked.prog.make == some Rows.blocksActsRow.make) = true := by kernel_rfl
theorem g28 : (Rows.blocksActsRow.kinds == (if Rows.blocksActsRow.domain.isEmpty then [] else Tryd.f5.params.toList.map fun t => match Tryd.pinned.checked.prog.underlying t with | some (.int k) => some k | _ => none)) = true := by kernel_rfl
theorem g29 : (Rows.blocksActsRow.pinned == Rows.blocksActsRow.pinnedBy) = true := by kernel_rfl
theorem g30 : (Rows.blocksActsRow.veiled == (Tryd.f5.params.toList ++ ((OpenSpec.ofChange Rows.blocksActsSpec)).bare.plain.varTypes Tryd.pinned.checked.prog ++ Tryd.f5.resultTypes.toList).any (Tryd.pinned.checked.prog.veiledRec ·)) = true := by kernel_rfl
theorem g31 : (Rows.blocksActsRow.veiledFits Tryd.pinned.checked.prog Tryd.f5.params.toList (Tryd.f5.params.toList ++ ((OpenSpec.ofChange Rows.blocksActsSpec)).bare.plain.varTypes Tryd.pinned.checked.prog ++ Tryd.f5.resultTypes.toList)) = true := by kernel_rfl
theorem named_at : Tryd.prog.funcNamed "tinsel/tinsellaw01.BlocksActs" = some 5 := by kernel_rfl
end Go.Proofs.YtomialandfplkaaDoor.blocksActs

