/- A part of an evaluator for the code. -/
import Derived.Test.YtoglpmfmnknlaaaGreatDoorXeM
import Derived.ProofKit
import Derived.OpenShut
import Derived.Carry
import Derived.ChangeOld
import Derived.Deep.DeepHandedRow
import Derived.Lib.LaidTab
namespace Go.Xe
open Go.ChangeShapes Go.WideShapes Go.ChangeAt Go.RowKit

section
variable {H : Type} {enc : TypeId × Value → H} {P : Program} {W W' : World}

theorem trodAll_below (hl : laidOutB P = true) (hb : Below W.heap.size W W') : ∀ {ts : List TypeId} {vs : List Value} {ds : List (DataW H)} {ps : List MemPlace}, (∀ t ∈ ts, P.readableRec t = true ∧ t < P.types.size) →
    DataW.TrodAll enc P W 0 (fun _ => true) true ts vs ds ps → (∀ x ∈ ps, x.block < W.heap.size) → DataW.TrodAll enc P W' 0 (fun b => decide (b < W.heap.size)) true ts vs ds ps
  | [], vs, ds, ps, _, h, _ => by
    obtain ⟨rfl, rfl, rfl⟩ := trodAll_nil h
    exact trodAll_mk0
  | t :: ts, vs, ds, ps, ht, h, hlt => by
    obtain ⟨v, vs', d, ds', p, q, rfl, rfl, rfl, h0, h1⟩ := trodAll_cons h
    have := ht t (List.mem_cons_self ..)
    exact trodAll_cons_mk (Below.trod hl this.1 this.2 h0 hb fun x hx => hlt x (List.mem_append_left _ hx))
      (trodAll_below hl hb (fun t ht' => ht t (List.mem_cons_of_mem _ ht')) h1 fun x hx => hlt x (List.mem_append_right _ hx))

theorem law_end {s : ChangeSpec} {f : Func} {args : Array Value} {ds gs : List (DataW H)} {before : List MemPlace} {t : TypeId} (hW : DataW.Whole enc P f.params.toList s.vars false W args.toList ds gs before)
    (hvars : s.vars = []) (hres : f.resultTypes = #[t]) (ht : P.underlying t = some .bool) (hspec : s.fn H (ds ++ []) = { results := [.lit (.bool true)], args := ds })
    (hb : Below W.heap.size W W') (hl : laidOutB P = true) (hr : ∀ t ∈ f.params.toList, P.readableRec t = true ∧ t < P.types.size) :
    s.post enc P f false true false false W args (.bool true) W' := by
  have hlt := hW.lt
  have hW' := hW
  obtain ⟨p, q, hA, hV, rfl, hfz, hnd⟩ := hW
  rw [hvars] at hV
  obtain ⟨rfl, rfl⟩ := trodVars_none hV
  refine ⟨ds, [], p ++ [], [], p, [], hW', ?_, ?_, ?_, hb.frame _, fun h => by cases h⟩
  · rw [hspec, hres]
    exact trodAll_cons_mk (shut_bool ht _) trodAll_mk0
  · rw [hspec]
    exact trodAll_below hl hb hr hA fun x hx => hlt x (List.mem_append_left _ hx)
  · rw [hspec, hvars]; rfl

theorem trod_agg {t : TypeId} {fs : Array Field} {n base : Nat} {sp : Nat → Bool} {held : Bool} {v : Value} {d : DataW H} {ps : List MemPlace} (hu : P.underlying t = some (.struct fs)) (hn : P.cellsOf t = n) (h1 : n ≠ 1) (h : DataW.Trod enc P W base sp held t v d ps) :
    ∃ cs, v = .agg cs ∧ cs.toList.length = n := by
  obtain ⟨fuel, h⟩ := h
  cases fuel with
  | zero => simp [DataW.trod] at h
  | succ fuel =>
    have hl : v.cells.toList.length = n := by
      unfold DataW.trod at h
      simp only [hu] at h
      split at h
      · rename_i hh; rw [hn] at hh; exact hh
      · cases h
    cases v <;> first
      | exact ⟨_, rfl, hl⟩
      | (exfalso; apply h1; rw [← hl]; rfl)
theorem denL_val (E : Env) : ∀ l : List Value, DenL E (l.map SV.val) l
  | [] => rfl
  | x :: xs => ⟨x, xs, rfl, denL_val E xs, rfl⟩

def tabOb (ty n : Nat) (l : List SV) : Ob := { ver := 0, ty, n, loose := false, esz := 1, ro := true, bf := fun _ => none, ov := trieOf l, sp := .cells }

theorem tabOb_rel {g ty n : Nat} {k : IntKind} {zs : List Int} (h : ∀ i, i < zs.length → W.cell? ⟨g, i, none⟩ = some (.int k (zs.getD i 0))) (h0 : 0 < zs.length) (P : Program) (E : Env) :
    ObjRel P E (tabOb ty n (zs.map (.int k))) W.heap[g]? 0 := by
  have hh := h 0 h0
  unfold World.cell? at hh
  split at hh <;> try (cases hh; done)
  rename_i c e f hb
  refine .inl ⟨rfl, c, e, f.1, f.2, hb, fun j y hj => ?_, fun h => by cases h⟩
  have hlt := Ob.get_lt hj
  unfold Ob.get at hj
  have hbl : Nat.blt j n = true := by rw [Nat.blt_eq]; exact hlt
  simp only [tabOb, hbl, cond_true] at hj
  cases ho : (trieOf (zs.map (SV.int k))).get j with
  | none => simp [ho] at hj
  | some z =>
    simp only [ho, Option.some.injEq] at hj
    subst hj
    have h1 := get_trieOf _ _ _ ho
    simp only [List.getElem?_map, Option.map_eq_some_iff] at h1
    obtain ⟨x, hx, rfl⟩ := h1
    have hj' := (List.getElem?_eq_some_iff.1 hx).1
    have h2 := h j hj'
    simp only [World.cell?, hb] at h2
    exact ⟨_, h2, by simp [List.getD, hx, Den]⟩
end
end Go.Xe
