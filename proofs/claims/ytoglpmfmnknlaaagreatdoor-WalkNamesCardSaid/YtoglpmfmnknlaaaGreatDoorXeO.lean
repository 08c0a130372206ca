/- A part of an evaluator for the code. -/
import Derived.Test.YtoglpmfmnknlaaaGreatDoorXeN
namespace Go.Xe

section
variable {P : Program} {W : World}

def tabObjs (g ty n : Nat) (l : List SV) : Hp := Hp.put { tr := .nil, base := fun _ => none } g (tabOb ty n l)

theorem start_tab {g ty n : Nat} {k : IntKind} {zs : List Int} (h : ∀ i, i < zs.length → W.cell? ⟨g, i, none⟩ = some (.int k (zs.getD i 0))) (h0 : 0 < zs.length) :
    Start (g + 1) (tabObjs g ty n (zs.map (.int k))) W := by
  refine ⟨?_, fun j o hg => ?_⟩
  · have hh := h 0 h0
    unfold World.cell? at hh
    split at hh <;> try (cases hh; done)
    rename_i hb
    have := (Array.getElem?_eq_some_iff.1 hb).1
    simp only at this
    omega
  · rcases Hp.get_put_some hg with ⟨rfl, rfl⟩ | ⟨_, h2⟩
    · exact ⟨by omega, rfl, rfl, fun P E => tabOb_rel h h0 P E⟩
    · simp [Hp.get, Tr.get] at h2
end
end Go.Xe
