/- The law WalkNames: the evaluator sees it answer true for every argument. -/
import Derived.Test.YtoglpmfmnknlaaaGreatDoorTab
namespace Go.Proofs.YtoglpmfmnknlaaaGreatDoor.walkNames
open Go.ChangeShapes Go.WideShapes Go.ChangeAt Go.RowKit Go.Xe Go.Proofs.YtoglpmfmnknlaaaGreatDoor.Eva

set_option maxRecDepth 100000 in
theorem evalK : ∀ _ : Unit, saysY ((runY tab 100000 1000).call (.ent 9) [] ⟨2, 2, objs⟩) = true := fun _ => by kernel_rfl
end Go.Proofs.YtoglpmfmnknlaaaGreatDoor.walkNames
