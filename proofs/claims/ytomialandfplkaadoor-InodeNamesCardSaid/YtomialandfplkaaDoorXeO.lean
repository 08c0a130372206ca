/- A part of an evaluator for the program's code: it runs code over an abstract memory, and what it answers holds of every run. -/
import Derived.Test.YtomialandfplkaaDoorXeN
namespace Go.Xe

section
variable {P : Program} {W : World}

/-- The one table: where a law begins. -/
def tabObjs (ty n : Nat) (l : List SV) : Tr Ob := Tr.set depth .nil 0 (tabOb ty n l)

theorem start_tab {ty n : Nat} {k : IntKind} {zs : List Int} (h : ∀ i, i < zs.length → W.cell? ⟨0, i, none⟩ = some (.int k (zs.getD i 0))) (h0 : 0 < zs.length) :
    Start 1 (tabObjs ty n (zs.map (.int k))) W := by
  refine ⟨?_, fun g o hg => ?_⟩
  · obtain ⟨c, e, a, b, hb, _⟩ := tabOb_rel (ty := ty) (n := n) h h0 (fun _ => none)
    have := (Array.getElem?_eq_some_iff.1 hb).1
    omega
  · rcases get_set _ _ _ _ _ _ hg with ⟨rfl, rfl⟩ | ⟨_, h2⟩
    · exact ⟨by omega, rfl, fun E => tabOb_rel h h0 E⟩
    · simp [Tr.get] at h2
end
end Go.Xe
