/- A part of an evaluator for the code. -/
import Derived.Test.YtoglpmfmnknlaaaGreatDoorXeYh
import Derived.Test.YtoglpmfmnknlaaaGreatDoorXeO
namespace Go.Xe
def saysY (r : Rs) : Bool := match r with
  | some (.ret (.bool true), _) => true
  | _ => false
theorem says_trueY {P : Program} {tab : Tr (YE P)} {lf fuel : Nat} (hm : P.follows .mixedOrders = true) {f : FuncId} {ng : Nat} {objs : Hp} {args : List SV} {argv : List Value} {w : World}
    (hst : Start ng objs w) (hargs : ∀ E, DenL E args argv) (h : saysY ((runY tab lf fuel).call (.ent f) args ⟨ng, ng, objs⟩) = true) :
    Calls P f argv.toArray w fun e w' => e = .returned (.bool true) ∧ RowKit.Below w.heap.size w w' := by
  refine says_true (tab := tab.map YE.e) (lf := lf) (fuel := fuel) hm hst hargs ?_
  unfold saysY at h
  split at h <;> try (cases h; done)
  rename_i h' he
  have := (runY_ok tab lf fuel).1 _ _ _ _ _ he []
  have e : ({ ng, next := ng, objs, orc := [], pc := [], dfs := [] } : XW) = (⟨ng, ng, objs⟩ : HW).xd [] := rfl
  rw [e, this]
  rfl
end Go.Xe
