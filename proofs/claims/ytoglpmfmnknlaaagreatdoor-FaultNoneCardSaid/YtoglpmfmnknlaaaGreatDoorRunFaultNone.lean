/- The law FaultNone: the evaluator sees it answer true for every argument. -/
import Derived.Test.YtoglpmfmnknlaaaGreatDoorTab
namespace Go.Proofs.YtoglpmfmnknlaaaGreatDoor.faultNone
open Go.ChangeShapes Go.WideShapes Go.ChangeAt Go.RowKit Go.Xe Go.Proofs.YtoglpmfmnknlaaaGreatDoor.Eva

set_option maxRecDepth 100000 in
theorem evalK : ∀ (v0_0 : Int) (v0_1 : ByteArray) (v0_2 : ByteArray) (v0_3 : Int) (v0_4 : Int) (v0_5 : Int) (v0_6a : Option Addr) (v0_6l : Nat) (v0_6c : Nat) (v0_7 : Int) (v0_8 : Int) (v0_9 : Bool) (v1 : Value), saysY ((runY tab 100000 1000).call (.ent 6) [.agg [.val (.int .u8 v0_0), .val (.string v0_1), .val (.string v0_2), .val (.int .i64 v0_3), .val (.int .i64 v0_4), .val (.int .i64 v0_5), .val (.slice v0_6a v0_6l v0_6c), .val (.int .i64 v0_7), .val (.int .i64 v0_8), .val (.bool v0_9)], .val v1] ⟨2, 2, objs⟩) = true := fun v0_0 v0_1 v0_2 v0_3 v0_4 v0_5 v0_6a v0_6l v0_6c v0_7 v0_8 v0_9 v1 => by kernel_rfl
end Go.Proofs.YtoglpmfmnknlaaaGreatDoor.faultNone
