/- A part of an evaluator for the program's code: what shape the cells of an argument have. -/
import Derived.Test.YtoglpmfmnknlaaaGreatDoorXeO
namespace Go.Xe
inductive Sh where
  | bo
  | it (k : IntKind)
  | st
  | sl
  | pt

def Sh.ok : Sh → Value → Prop
  | .bo, v => ∃ b, v = .bool b
  | .it k, v => ∃ n, v = .int k n ∧ (Lit.int k n).wf = true
  | .st, v => ∃ s, v = .string s ∧ s.size ≤ maxLen
  | .sl, v => ∃ a l c, v = .slice a l c
  | .pt, v => ∃ a, v = .pointer a

section
variable {P : Program}
def fieldAt (P : Program) : List Field → Nat → Option Field
  | [], _ => none
  | f :: fs, j => bif Nat.ble f.offset j && Nat.blt j (f.offset + P.cellsOf f.type) then some f else fieldAt P fs j

theorem fieldAt_spec {f : Field} {j : Nat} : ∀ {fs : List Field}, fieldAt P fs j = some f → f ∈ fs ∧ f.offset ≤ j ∧ j < f.offset + P.cellsOf f.type
  | [], h => by cases h
  | g :: fs, h => by
    simp only [fieldAt] at h
    cases hb : (Nat.ble g.offset j && Nat.blt j (g.offset + P.cellsOf g.type)) with
    | true =>
      simp only [hb, cond_true, Option.some.injEq] at h
      subst h
      simp only [Bool.and_eq_true] at hb
      refine ⟨List.mem_cons_self .., Nat.le_of_ble_eq_true hb.1, ?_⟩
      have := hb.2
      rw [Nat.blt_eq] at this
      exact this
    | false =>
      simp only [hb, cond_false] at h
      obtain ⟨h1, h2⟩ := fieldAt_spec h
      exact ⟨List.mem_cons_of_mem _ h1, h2⟩

/-- The shape of a cell of a type's value. -/
def shapeAt (P : Program) : Nat → TypeId → Nat → Option Sh
  | 0, _, _ => none
  | n + 1, t, j => match P.underlying t with
    | some .bool => bif Nat.beq j 0 then some .bo else none
    | some (.int k) => bif Nat.beq j 0 then some (.it k) else none
    | some .string => bif Nat.beq j 0 then some .st else none
    | some (.slice _) => bif Nat.beq j 0 then some .sl else none
    | some (.pointer _) => bif Nat.beq j 0 then some .pt else none
    | some (.struct fs) => (match fieldAt P fs.toList j with
      | some f => shapeAt P n f.type (j - f.offset)
      | none => none)
    | _ => none

theorem mapM_some {α β : Type} {f : α → Option β} : ∀ {l : List α} {ys : List β}, l.mapM f = some ys → ∀ a ∈ l, ∃ y, f a = some y
  | [], _, _, a, ha => by cases ha
  | x :: l, ys, h, a, ha => by
    rw [List.mapM_cons] at h
    cases hx : f x with
    | none => simp [hx] at h
    | some y =>
      cases hl : l.mapM f with
      | none => simp [hx, hl] at h
      | some zs =>
        rcases List.mem_cons.1 ha with rfl | ha
        · exact ⟨y, hx⟩
        · exact mapM_some hl a ha

variable {H : Type} {enc : TypeId × Value → H} {w : World} {base : Nat} {sp : Nat → Bool} {held : Bool}

theorem shape_cell : ∀ (n : Nat) (t : TypeId) (j : Nat) (s : Sh), shapeAt P n t j = some s → ∀ (fuel : Nat) (cs : List Value) (x : DataW H × List MemPlace), DataW.trod enc P w base sp held fuel t cs = some x → ∃ v, cs[j]? = some v ∧ s.ok v
  | 0, _, _, _, h, _, _, _, _ => by cases h
  | n + 1, t, j, s, h, fuel, cs, x, ht => by
    have one : ∀ {s' : Sh}, (bif Nat.beq j 0 then some s' else none) = some s → j = 0 ∧ s = s' := by
      intro s' h
      cases hj : Nat.beq j 0 with
      | false => simp [hj] at h
      | true => simp only [hj, cond_true, Option.some.injEq] at h; exact ⟨Nat.eq_of_beq_eq_true hj, h.symm⟩
    cases fuel with
    | zero => simp [DataW.trod] at ht
    | succ fuel =>
    unfold shapeAt at h
    unfold DataW.trod at ht
    split at h <;> (try (cases h; done)) <;> rename_i hu <;> simp only [hu] at ht
    · obtain ⟨rfl, rfl⟩ := one h
      split at ht <;> first
        | (cases ht; done)
        | exact ⟨_, rfl, _, rfl⟩
        | simp_all
    · obtain ⟨rfl, rfl⟩ := one h
      split at ht <;> first
        | (cases ht; done)
        | (split at ht
           · rename_i hh; obtain ⟨e1, e2⟩ := hh
             simp_all [Sh.ok]
           · cases ht)
        | simp_all
    · obtain ⟨rfl, rfl⟩ := one h
      split at ht <;> first
        | (cases ht; done)
        | (split at ht
           · rename_i hh
             exact ⟨_, rfl, _, rfl, hh⟩
           · cases ht)
        | simp_all
    · obtain ⟨rfl, rfl⟩ := one h
      split at ht <;> first
        | (cases ht; done)
        | exact ⟨_, rfl, _, _, _, rfl⟩
        | simp_all
    · obtain ⟨rfl, rfl⟩ := one h
      split at ht <;> first
        | (cases ht; done)
        | exact ⟨_, rfl, _, rfl⟩
        | simp_all
    · rename_i fs
      split at h <;> try (cases h; done)
      rename_i f hf
      obtain ⟨hmem, hlo, hhi⟩ := fieldAt_spec hf
      split at ht
      · cases hm : (fs.toList.mapM fun f => DataW.trod enc P w base sp held fuel f.type ((cs.drop f.offset).take (P.cellsOf f.type))) with
        | none => simp [hm] at ht
        | some ys =>
          obtain ⟨y, hy⟩ := mapM_some hm f hmem
          obtain ⟨v, hv, hok⟩ := shape_cell n _ _ _ h fuel _ y hy
          refine ⟨v, ?_, hok⟩
          rw [List.getElem?_take_of_lt (by omega), List.getElem?_drop] at hv
          rw [← hv]
          congr 1
          omega
      · cases ht

theorem trod_cell {t : TypeId} {v : Value} {d : DataW H} {ps : List MemPlace} (n j : Nat) {s : Sh} (hs : shapeAt P n t j = some s) (h : DataW.Trod enc P w base sp held t v d ps) : ∃ x, v.cells.toList[j]? = some x ∧ s.ok x := by
  obtain ⟨fuel, h⟩ := h
  exact shape_cell n t j s hs fuel _ _ h
end
end Go.Xe
